/- Words read: ownerships, paths, bytes, names; a word put into a call: walked. -/
import Derived.Test.YtibchilpaaiecaaGreatDoorL130
import Derived.Test.YtibchilpaaiecaaGreatDoorM25
set_option linter.all false
set_option maxRecDepth 100000
set_option maxHeartbeats 32000000
namespace Go.Proofs.YtibchilpaaiecaaGreatDoor.L
open Go.Proofs.YtibchilpaaiecaaGreatDoor.M Go.Proofs.YtibchilpaaiecaaGreatDoor.F Go.Proofs
theorem rk {s : List UInt8} {c : UInt8} {h : AH} (hs : s.length ≤ 900000000) : run T 42 [.str ⟨s.toArray⟩, .str ⟨#[c]⟩] h = some (.sl .sh ((pcs c s).map encT), h) := by
 rw [eG T_42, pT]
 show (if (⟨s.toArray⟩ : ByteArray).size < 4294967281 then _ else _) = _
 rw [if_pos (by rw [size_mk]; omega)]
 rfl
theorem lS (c : UInt8) (s : List UInt8) : ∃ x xs, pcs c s = x :: xs := by
 obtain ⟨x, xs, h⟩ := fF c s
 exact ⟨x, xs.map (·.1), by unfold pcs; rw [h]; rfl⟩
theorem kN {c : UInt8} {s w : List UInt8} (h : w ∈ pcs c s) : w.length ≤ s.length := by
 obtain ⟨q, hq, rfl⟩ := List.mem_map.1 h
 exact ft hq
theorem vZ (c : UInt8) (s : List UInt8) : (pcs c s).length ≤ s.length + 1 := by
 have h1 := kW c s
 have h2 : ∀ l : List (List UInt8 × List UInt8), l.length ≤ (l.map fun q => q.1.length + 1).sum := fun l => by
  induction l with
  | nil => simp
  | cons a l ih => simp only [List.length_cons, List.map_cons, List.sum_cons]; omega
 have := h2 (au c s)
 unfold pcs
 rw [List.length_map]; omega
def ownP (s : List UInt8) : List (List UInt8) × Bool := if s = [45] then ([], true) else if rigO (pcs 44 s) = true then (pcs 44 s, true) else ([], false)
def ownV (s : List UInt8) : AV := if s = [45] then ow [] else if rigO (pcs 44 s) = true then .sl .sh ((pcs 44 s).map encT) else ow []
theorem B7 (s : List UInt8) : (ownV s).sh = .sl .sh ((ownP s).1.map encT) := by
 unfold ownV ownP
 split
 ·exact nZ
 ·split
  ·rfl
  ·exact nZ
theorem xM {s : List UInt8} (hs : s.length ≤ 900000000) : run U 18 [.str ⟨s.toArray⟩] [] = some (.tup [ownV s, .bool (ownP s).2], []) := by
 have q1 := upU (rk (s := s) (c := 44) (h := []) hs)
 have q2 := xx (l := pcs 44 s) (h := []) fun x hx => by have := kN hx; omega
 rw [af (show U 18 = some (.code eB) from rfl)]
 unfold ownV ownP
 by_cases h0 : s = [45]
 ·have e1 : (s == [45]) = true := by rw [h0]; rfl
  rw [if_pos h0, if_pos h0]
  simp (maxSteps := 2000000) -implicitDefEqProofs (disch := (refine ab ?_; first | assumption | omega | (simp [go_sem] <;> omega) | with_unfolding_all rfl | decide)) only [go_sem, Nat.reduceAdd, Nat.reduceSub, reduceIte, reduceCtorEq, eB, e1]
 ·have e1 : (s == [45]) = false := by simpa using h0
  rw [if_neg h0, if_neg h0]
  obtain ⟨x, xs, hp⟩ := lS 44 s
  have hz := eqz (n := ((pcs 44 s).map encT).length) (by rw [hp]; simp)
  generalize pcs 44 s = l at *
  cases hr : rigO l with
  | true =>
   rw [hr] at q2
   rw [if_pos rfl, if_pos rfl]
   simp (maxSteps := 2000000) -implicitDefEqProofs (disch := (refine ab ?_; first | assumption | omega | (simp [go_sem] <;> omega) | with_unfolding_all rfl | decide)) only [go_sem, Nat.reduceAdd, Nat.reduceSub, reduceIte, reduceCtorEq, eB, e1, q1, q2, hz, Bool.not_true]
  | false =>
   rw [hr] at q2
   rw [if_neg (by simp), if_neg (by simp)]
   simp (maxSteps := 2000000) -implicitDefEqProofs (disch := (refine ab ?_; first | assumption | omega | (simp [go_sem] <;> omega) | with_unfolding_all rfl | decide)) only [go_sem, Nat.reduceAdd, Nat.reduceSub, reduceIte, reduceCtorEq, eB, e1, q1, q2, Bool.not_false]
def frmP (s : List UInt8) : List Int := if s = [46] then [] else (prsP s).1
def frmV (s : List UInt8) : AV := if s = [46] then ow [] else .sl .sh ((prsP s).1.map encI)
theorem sW (s : List UInt8) : (frmV s).sh = .sl .sh ((frmP s).map encI) := by
 unfold frmV frmP
 split
 ·exact nZ
 ·rfl
theorem Ef {s : List UInt8} (hs : s.length ≤ 900000000) : run T 87 [.str ⟨s.toArray⟩] [] = some (frmV s, []) := by
 have q1 := HE (s := s) (by omega)
 rw [af T_87]
 unfold frmV
 by_cases h0 : s = [46]
 ·have e1 : (s == [46]) = true := by rw [h0]; rfl
  rw [if_pos h0]
  simp (maxSteps := 2000000) -implicitDefEqProofs (disch := (refine ab ?_; first | assumption | omega | (simp [go_sem] <;> omega) | with_unfolding_all rfl | decide)) only [go_sem, Nat.reduceAdd, Nat.reduceSub, reduceIte, reduceCtorEq, fz, e1]
 ·have e1 : (s == [46]) = false := by simpa using h0
  rw [if_neg h0]
  simp (maxSteps := 2000000) -implicitDefEqProofs (disch := (refine ab ?_; first | assumption | omega | (simp [go_sem] <;> omega) | with_unfolding_all rfl | decide)) only [go_sem, Nat.reduceAdd, Nat.reduceSub, reduceIte, reduceCtorEq, fz, e1, q1]
def hexL : List UInt8 := [48, 49, 50, 51, 52, 53, 54, 55, 56, 57, 97, 98, 99, 100, 101, 102]
def nib (c : UInt8) : Int := Lib.indexByte hexL c
theorem B8 {c : UInt8} : run T 117 [.str ⟨#[48, 49, 50, 51, 52, 53, 54, 55, 56, 57, 97, 98, 99, 100, 101, 102]⟩, .int .u8 c.toNat] [] = some (.int .i64 (nib c), []) := by
 rw [eG K6]
 show some (AV.int .i64 (Lib.indexByte hexL ((c.toNat : Int).toNat.toUInt8)), []) = _
 rw [Int.toNat_natCast, show c.toNat.toUInt8 = c from UInt8.ofNat_toNat]
 rfl
theorem uK (c : UInt8) : nib c < 16 := sF hexL c
def jb : List UInt8 → List UInt8 → Option (List UInt8)
 | acc, a :: b :: r => if nib a < 0 ∨ nib b < 0 then none else jb (acc ++ [UInt8.ofNat (16 * (nib a).toNat + (nib b).toNat)]) r
 | acc, _ => some acc
def txtW (w : List UInt8) : List UInt8 := (jb [] w).getD []
theorem slc2 {s : List UInt8} (h : 2 ≤ s.length) : cV none (.str ⟨s.toArray⟩) (some (some 2)) (some none) (some none) = some (.str ⟨(s.drop 2).toArray⟩) := Bf (i := 2) (by omega) (by omega)
theorem yV {h : AH} : ∀ (n : Nat) (s acc : List UInt8), s.length ≤ n → s.length ≤ 900000000 → acc.length + s.length ≤ 900000000 →
  (∃ q, jb acc s = some q ∧ den T (.loop eD) (fA (.str ⟨s.toArray⟩) (ow (acc.map encB))) h = some (.exit 0, pJ (ow (q.map encB)), h)) ∨
  (jb acc s = none ∧ ∃ σ, den T (.loop eD) (fA (.str ⟨s.toArray⟩) (ow (acc.map encB))) h = some (.ret, σ, h) ∧ σ.getD 2 aa = ow []) := by
 intro n
 induction n using Nat.strongRecOn with
 | _ n ih =>
  intro s acc hn hs ha
  have hz : (⟨s.toArray⟩ : ByteArray).size = s.length := by simp [ByteArray.size]
  by_cases hlt : s.length < 2
  ·have hu : jb acc s = some acc := by
    match s, hlt with
    | [], _ => rfl
    | [a], _ => rfl
    | a :: b :: r, hlt => simp at hlt; omega
   rw [hu]
   refine .inl ⟨acc, rfl, ?_⟩
   have hd' : decide ((s.length : Int) ≥ 2) = false := decide_eq_false (by omega)
   rw [ae]
   simp -implicitDefEqProofs (disch := (refine ab ?_; first | assumption | omega | (simp [go_sem] <;> omega) | with_unfolding_all rfl | decide)) only [go_sem, Nat.reduceAdd, Nat.reduceSub, reduceIte, reduceCtorEq, hz, hd']
  ·obtain ⟨a, b, r, rfl⟩ : ∃ a b r, s = a :: b :: r := by
    match s, hlt with
    | [], hlt => simp at hlt
    | [a], hlt => simp at hlt
    | a :: b :: r, _ => exact ⟨a, b, r, rfl⟩
   have hd' : decide (((a :: b :: r).length : Int) ≥ 2) = true := decide_eq_true (by simp <;> omega)
   have g0 : (⟨(a :: b :: r).toArray⟩ : ByteArray)[(0 : Int).toNat]? = some a := by
    have := gL (a := a :: b :: r) (i := 0)
    rw [show (0 : Int).toNat = 0 from rfl, this]; rfl
   have g1 : (⟨(a :: b :: r).toArray⟩ : ByteArray)[(1 : Int).toNat]? = some b := by
    have := gL (a := a :: b :: r) (i := 1)
    rw [show (1 : Int).toNat = 1 from rfl, this]; rfl
   have s2 : cV none (.str ⟨(a :: b :: r).toArray⟩) (some (some 2)) (some none) (some none) = some (.str ⟨r.toArray⟩) := slc2 (s := a :: b :: r) (by simp)
   have q1 := B8 (c := a)
   have q2 := B8 (c := b)
   have l1 := uK a
   have l2 := uK b
   rw [jb]
   simp only [List.length_cons] at hn hs ha
   by_cases h1 : nib a < 0
   ·have d1 : decide (nib a < 0) = true := decide_eq_true h1
    rw [if_pos (.inl h1)]
    refine .inr ⟨rfl, ?_⟩
    generalize a :: b :: r = S at *
    rw [ae]
    simp (maxSteps := 2000000) -implicitDefEqProofs (disch := (refine ab ?_; first | assumption | omega | (simp [go_sem] <;> omega) | with_unfolding_all rfl | decide)) only [go_sem, Nat.reduceAdd, Nat.reduceSub, reduceIte, reduceCtorEq, hz, hd', g0, g1, q1, q2, d1]
    exact ⟨_, rfl, rfl⟩
   ·have d1 : decide (nib a < 0) = false := decide_eq_false h1
    by_cases h2 : nib b < 0
    ·have d2 : decide (nib b < 0) = true := decide_eq_true h2
     rw [if_pos (.inr h2)]
     refine .inr ⟨rfl, ?_⟩
     generalize a :: b :: r = S at *
     rw [ae]
     simp (maxSteps := 2000000) -implicitDefEqProofs (disch := (refine ab ?_; first | assumption | omega | (simp [go_sem] <;> omega) | with_unfolding_all rfl | decide)) only [go_sem, Nat.reduceAdd, Nat.reduceSub, reduceIte, reduceCtorEq, hz, hd', g0, g1, q1, q2, d1, d2]
     exact ⟨_, rfl, rfl⟩
    ·have d2 : decide (nib b < 0) = false := decide_eq_false h2
     rw [if_neg (by omega)]
     obtain ⟨x, hx⟩ : ∃ x : Nat, nib a = x := ⟨(nib a).toNat, by omega⟩
     obtain ⟨y, hy⟩ : ∃ y : Nat, nib b = y := ⟨(nib b).toNat, by omega⟩
     rw [hx] at q1 l1 d1 ⊢
     rw [hy] at q2 l2 d2 ⊢
     simp only [Int.toNat_natCast]
     have ih' := ih r.length (by omega) r (acc ++ [UInt8.ofNat (16 * x + y)]) (Nat.le_refl _) (by omega) (by rw [List.length_append, List.length_singleton]; omega)
     have e1 : IntKind.i64.wrap (16 * (x : Int)) = ((16 * x : Nat) : Int) := by rw [w64 (by omega) (by omega)]; omega
     have e2 : IntKind.i64.wrap (((16 * x : Nat) : Int) + (y : Int)) = ((16 * x + y : Nat) : Int) := by rw [w64 (by omega) (by omega)]; omega
     have e3 : IntKind.u8.wrap ((16 * x + y : Nat) : Int) = (((UInt8.ofNat (16 * x + y)).toNat : Nat) : Int) := by rw [w8]; simp <;> omega
     have hml : (acc.map encB).length = acc.length := List.length_map ..
     rw [show (acc ++ [UInt8.ofNat (16 * x + y)]).map encB = acc.map encB ++ [[.int .u8 ((UInt8.ofNat (16 * x + y)).toNat : Nat)]] by simp [encB]] at ih'
     have hstep : den T (.loop eD) (fA (.str ⟨(a :: b :: r).toArray⟩) (ow (acc.map encB))) h = den T (.loop eD) (fA (.str ⟨r.toArray⟩) (ow (acc.map encB ++ [[.int .u8 ((UInt8.ofNat (16 * x + y)).toNat : Nat)]]))) h := by
      generalize a :: b :: r = S at *
      conv => lhs; rw [ae]
      simp (maxSteps := 2000000) -implicitDefEqProofs (disch := (refine ab ?_; first | assumption | omega | (simp [go_sem] <;> omega) | with_unfolding_all rfl | decide)) only [go_sem, Nat.reduceAdd, Nat.reduceSub, reduceIte, reduceCtorEq, hz, hd', g0, g1, q1, q2, d1, d2, e1, e2, e3, hml, s2]
      try rfl
     rw [hstep]
     exact ih'
theorem Eg {s : List UInt8} (hs : s.length ≤ 900000000) : run T 88 [.str ⟨s.toArray⟩] [] = some (ow ((txtW s).map encB), []) := by
 rw [af T_88]
 unfold txtW
 rcases yV (h := []) s.length s [] (Nat.le_refl _) hs (by simpa using hs) with ⟨q, h1, h2⟩ | ⟨h1, σ, h2, h3⟩
 ·simp only [List.map_nil] at h2
  rw [h1]
  simp (maxSteps := 2000000) -implicitDefEqProofs (disch := (refine ab ?_; first | assumption | omega | (simp [go_sem] <;> omega) | with_unfolding_all rfl | decide)) only [go_sem, Nat.reduceAdd, Nat.reduceSub, reduceIte, reduceCtorEq, fB, h2]
 ·simp only [List.map_nil] at h2
  rw [h1]
  simp (maxSteps := 2000000) -implicitDefEqProofs (disch := (refine ab ?_; first | assumption | omega | (simp [go_sem] <;> omega) | with_unfolding_all rfl | decide)) only [go_sem, Nat.reduceAdd, Nat.reduceSub, reduceIte, reduceCtorEq, fB, h2, h3, List.map_nil]
def ixF : Nat → List (List UInt8) → List UInt8 → Int
 | _, [], _ => -1
 | i, x :: r, w => if w = x then i else ixF (i + 1) r w
theorem H9 {l : List (List UInt8)} {w : List UInt8} {h : AH} (hl : l.length ≤ 1000) : ∀ (d i : Nat), d + i = l.length →
  (ixF i (l.drop i) w = -1 ∧ den T (.loop aN) (bn (.sl .sh (l.map encT)) (.str ⟨w.toArray⟩) (.int .i64 l.length) (.int .i64 i)) h = some (.exit 0, gk, h)) ∨
  (∃ j : Nat, ixF i (l.drop i) w = j ∧ ∃ σ, den T (.loop aN) (bn (.sl .sh (l.map encT)) (.str ⟨w.toArray⟩) (.int .i64 l.length) (.int .i64 i)) h = some (.ret, σ, h) ∧ σ.getD 4 aa = .int .i64 j) := by
 intro d
 induction d with
 | zero =>
  intro i hd
  have hd' : decide ((i : Int) < l.length) = false := decide_eq_false (by omega)
  refine .inl ⟨by rw [List.drop_eq_nil_of_le (by omega)]; rfl, ?_⟩
  rw [ae]
  simp -implicitDefEqProofs (disch := (refine ab ?_; first | assumption | omega | (simp [go_sem] <;> omega) | with_unfolding_all rfl | decide)) only [go_sem, Nat.reduceAdd, Nat.reduceSub, reduceIte, reduceCtorEq, hd']
 | succ d ih =>
  intro i hd
  have hib : i < l.length := by omega
  have hd' : decide ((i : Int) < l.length) = true := decide_eq_true (by omega)
  have hge : (l.map encT)[(i : Int).toNat]? = some (encT l[i]) := by simp [hib]
  have hdr : l.drop i = l[i] :: l.drop (i + 1) := List.drop_eq_getElem_cons hib
  have e7 := incP (n := i) (by omega)
  have ih' := ih (i + 1) (by omega)
  rw [hdr, ixF]
  generalize l[i] = x at *
  simp only [encT] at hge
  by_cases hx : w = x
  ·have hq : (w == x) = true := by simp [hx]
   rw [if_pos hx]
   refine .inr ⟨i, rfl, ?_⟩
   rw [ae]
   simp (maxSteps := 2000000) -implicitDefEqProofs (disch := (refine ab ?_; first | assumption | omega | (simp [go_sem] <;> omega) | with_unfolding_all rfl | decide)) only [go_sem, Nat.reduceAdd, Nat.reduceSub, reduceIte, reduceCtorEq, hd', hge, hq]
   exact ⟨_, rfl, rfl⟩
  ·have hq : (w == x) = false := by simp [hx]
   rw [if_neg hx]
   have hstep : den T (.loop aN) (bn (.sl .sh (l.map encT)) (.str ⟨w.toArray⟩) (.int .i64 l.length) (.int .i64 i)) h = den T (.loop aN) (bn (.sl .sh (l.map encT)) (.str ⟨w.toArray⟩) (.int .i64 l.length) (.int .i64 (i + 1 : Nat))) h := by
    conv => lhs; rw [ae]
    simp (maxSteps := 2000000) -implicitDefEqProofs (disch := (refine ab ?_; first | assumption | omega | (simp [go_sem] <;> omega) | with_unfolding_all rfl | decide)) only [go_sem, Nat.reduceAdd, Nat.reduceSub, reduceIte, reduceCtorEq, hd', hge, hq, e7]
    try rfl
   rw [hstep]
   exact ih'
theorem wa {l : List (List UInt8)} {w : List UInt8} {h : AH} (hl : l.length ≤ 1000) : run T 43 [.sl .sh (l.map encT), .str ⟨w.toArray⟩] h = some (.int .i64 (ixF 0 l w), h) := by
 rw [af T_43]
 rcases H9 (w := w) (h := h) hl l.length 0 (by omega) with ⟨h1, h2⟩ | ⟨j, h1, σ, h2, h3⟩
 ·simp only [show ((0 : Nat) : Int) = 0 from rfl, List.drop_zero] at h1 h2
  rw [h1]
  simp (maxSteps := 2000000) -implicitDefEqProofs (disch := (refine ab ?_; first | assumption | omega | (simp [go_sem] <;> omega) | with_unfolding_all rfl | decide)) only [go_sem, Nat.reduceAdd, Nat.reduceSub, reduceIte, reduceCtorEq, aY, List.length_map, h2]
 ·simp only [show ((0 : Nat) : Int) = 0 from rfl, List.drop_zero] at h1 h2
  rw [h1]
  simp (maxSteps := 2000000) -implicitDefEqProofs (disch := (refine ab ?_; first | assumption | omega | (simp [go_sem] <;> omega) | with_unfolding_all rfl | decide)) only [go_sem, Nat.reduceAdd, Nat.reduceSub, reduceIte, reduceCtorEq, aY, List.length_map, h2, h3]
def atoV (w : List UInt8) : Int := match Lib.atoiAll w with | .ok v => v | .range => Lib.atoiSat w | _ => 0
theorem Eh (t : Nat) (w : List UInt8) : ∃ e, n4 t w = .tup [.int .i64 (atoV w), e] := by
 unfold n4 atoV
 cases Lib.atoiAll w <;> exact ⟨_, rfl⟩
def setP (o : Cal) (p : UInt8) (w : List UInt8) : Cal :=
 if p = 97 then { o with at_ := frmP w } else if p = 115 then { o with seg := frmP w } else if p = 108 then { o with lab := (labP w).1 } else if p = 101 then { o with ent := (labP w).1 } else
 if p = 110 then { o with n := atoV w } else if p = 109 then { o with m := atoV w } else if p = 111 then { o with own := (ownP w).1 } else if p = 116 then { o with text := txtW w } else
 if p = 99 then { o with cat := w } else { o with write := w == [119] }
def setE (E : List AV) (p : UInt8) (w : List UInt8) : List AV :=
 if p = 97 then E.set 1 (frmV w) else if p = 115 then E.set 9 (frmV w) else if p = 108 then E.set 2 (.sl .sh ((labP w).1.map encE)) else if p = 101 then E.set 3 (.sl .sh ((labP w).1.map encE)) else
 if p = 110 then E.set 5 (.int .i64 (atoV w)) else if p = 109 then E.set 6 (.int .i64 (atoV w)) else if p = 111 then E.set 4 (ownV w) else if p = 116 then E.set 7 (ow ((txtW w).map encB)) else
 if p = 99 then E.set 8 (.str ⟨w.toArray⟩) else E.set 10 (.bool (w == [119]))
theorem du : ∀ (E : List AV) (i : Nat) (v : AV), shL (E.set i v) = (shL E).set i v.sh
 | [], _, _ => rfl
 | _ :: _, 0, _ => rfl
 | e :: E, i + 1, v => by simp only [List.set_cons_succ, shL, du E i v]
theorem xN (E : List AV) (p : UInt8) (w : List UInt8) : (setE E p w).length = E.length := by
 unfold setE
 repeat' split
 all_goals simp
theorem Ia {E : List AV} {o : Cal} (h : shL E = encC o) (p : UInt8) (w : List UInt8) : shL (setE E p w) = encC (setP o p w) := by
 unfold setE setP
 by_cases h1 : p = 97
 ·rw [if_pos h1, if_pos h1, du, h, sW]; rfl
 rw [if_neg h1, if_neg h1]
 by_cases h1 : p = 115
 ·rw [if_pos h1, if_pos h1, du, h, sW]; rfl
 rw [if_neg h1, if_neg h1]
 by_cases h1 : p = 108
 ·rw [if_pos h1, if_pos h1, du, h]; rfl
 rw [if_neg h1, if_neg h1]
 by_cases h1 : p = 101
 ·rw [if_pos h1, if_pos h1, du, h]; rfl
 rw [if_neg h1, if_neg h1]
 by_cases h1 : p = 110
 ·rw [if_pos h1, if_pos h1, du, h]; rfl
 rw [if_neg h1, if_neg h1]
 by_cases h1 : p = 109
 ·rw [if_pos h1, if_pos h1, du, h]; rfl
 rw [if_neg h1, if_neg h1]
 by_cases h1 : p = 111
 ·rw [if_pos h1, if_pos h1, du, h, B7]; rfl
 rw [if_neg h1, if_neg h1]
 by_cases h1 : p = 116
 ·rw [if_pos h1, if_pos h1, du, h, nZ]; rfl
 rw [if_neg h1, if_neg h1]
 by_cases h1 : p = 99
 ·rw [if_pos h1, if_pos h1, du, h]; rfl
 rw [if_neg h1, if_neg h1, du, h]; rfl
theorem tkd {E : List AV} {k : Nat} {v : AV} (h : k + 1 ≤ E.length) : E.take k ++ v :: E.drop (k + 1) = E.set k v := by rw [List.set_eq_take_append_cons_drop, if_pos (by omega)]
theorem yW {E : List AV} {H : AH} {b0 : Nat} {p : UInt8} {w : List UInt8} (hH : H[b0]? = some (.cells E)) (hE : E.length = 11) (hw : w.length ≤ 900000000) (hp : p = 97 ∨ p = 115 ∨ p = 108 ∨ p = 101 ∨ p = 110 ∨ p = 109 ∨ p = 111 ∨ p = 116 ∨ p = 99 ∨ p = 119) :
  run U 45 [.box b0 0, .int .u8 p.toNat, .str ⟨w.toArray⟩] H = some (.tup [], H.set b0 (.cells (setE E p w))) := by
 have q1 := upU (Ef hw)
 have q2 := upU (B6 hw)
 have q3 := xM hw
 have q4 := upU (Eg hw)
 obtain ⟨e, he⟩ := Eh 151 w
 have q5 := fun h => upU (jz (s := w) (h := h) (by omega))
 rw [he] at q5
 have b : ∀ k, k ≤ 10 → Nat.ble (0 + k + 1) E.length = true := fun k hk => Nat.ble_eq_true_of_le (by omega)
 rw [af (show U 45 = some (.code ay) from rfl)]
 rcases hp with rfl | rfl | rfl | rfl | rfl | rfl | rfl | rfl | rfl | rfl
 ·rw [show ((UInt8.toNat 97 : Nat) : Int) = 97 from rfl, show setE E 97 w = E.set 1 (frmV w) from rfl]
  have b1 := b 1 (by omega)
  have t1 : ∀ v : AV, E.take 1 ++ v :: E.drop 2 = E.set 1 v := fun v => tkd (by omega)
  simp only [Nat.zero_add, Nat.reduceAdd] at b1
  unfold frmV at q1 ⊢
  by_cases h0 : w = [46]
  ·rw [if_pos h0] at q1 ⊢
   simp (maxSteps := 4000000) -implicitDefEqProofs (disch := (refine ab ?_; first | assumption | omega | (simp [go_sem] <;> omega) | with_unfolding_all rfl | decide)) only [go_sem, Nat.reduceAdd, Nat.reduceSub, reduceIte, reduceCtorEq, ay, Int.reduceBEq, q1, q2, q3, q4, q5, b1, t1, hH]
  ·rw [if_neg h0] at q1 ⊢
   simp (maxSteps := 4000000) -implicitDefEqProofs (disch := (refine ab ?_; first | assumption | omega | (simp [go_sem] <;> omega) | with_unfolding_all rfl | decide)) only [go_sem, Nat.reduceAdd, Nat.reduceSub, reduceIte, reduceCtorEq, ay, Int.reduceBEq, q1, q2, q3, q4, q5, b1, t1, hH]
 ·rw [show ((UInt8.toNat 115 : Nat) : Int) = 115 from rfl, show setE E 115 w = E.set 9 (frmV w) from rfl]
  have b1 := b 9 (by omega)
  have t1 : ∀ v : AV, E.take 9 ++ v :: E.drop 10 = E.set 9 v := fun v => tkd (by omega)
  simp only [Nat.zero_add, Nat.reduceAdd] at b1
  unfold frmV at q1 ⊢
  by_cases h0 : w = [46]
  ·rw [if_pos h0] at q1 ⊢
   simp (maxSteps := 4000000) -implicitDefEqProofs (disch := (refine ab ?_; first | assumption | omega | (simp [go_sem] <;> omega) | with_unfolding_all rfl | decide)) only [go_sem, Nat.reduceAdd, Nat.reduceSub, reduceIte, reduceCtorEq, ay, Int.reduceBEq, q1, q2, q3, q4, q5, b1, t1, hH]
  ·rw [if_neg h0] at q1 ⊢
   simp (maxSteps := 4000000) -implicitDefEqProofs (disch := (refine ab ?_; first | assumption | omega | (simp [go_sem] <;> omega) | with_unfolding_all rfl | decide)) only [go_sem, Nat.reduceAdd, Nat.reduceSub, reduceIte, reduceCtorEq, ay, Int.reduceBEq, q1, q2, q3, q4, q5, b1, t1, hH]
 ·rw [show ((UInt8.toNat 108 : Nat) : Int) = 108 from rfl, show setE E 108 w = E.set 2 (.sl .sh ((labP w).1.map encE)) from rfl]
  have b1 := b 2 (by omega)
  have t1 : ∀ v : AV, E.take 2 ++ v :: E.drop 3 = E.set 2 v := fun v => tkd (by omega)
  simp only [Nat.zero_add, Nat.reduceAdd] at b1
  simp (maxSteps := 4000000) -implicitDefEqProofs (disch := (refine ab ?_; first | assumption | omega | (simp [go_sem] <;> omega) | with_unfolding_all rfl | decide)) only [go_sem, Nat.reduceAdd, Nat.reduceSub, reduceIte, reduceCtorEq, ay, Int.reduceBEq, q1, q2, q3, q4, q5, b1, t1, hH]
 ·rw [show ((UInt8.toNat 101 : Nat) : Int) = 101 from rfl, show setE E 101 w = E.set 3 (.sl .sh ((labP w).1.map encE)) from rfl]
  have b1 := b 3 (by omega)
  have t1 : ∀ v : AV, E.take 3 ++ v :: E.drop 4 = E.set 3 v := fun v => tkd (by omega)
  simp only [Nat.zero_add, Nat.reduceAdd] at b1
  simp (maxSteps := 4000000) -implicitDefEqProofs (disch := (refine ab ?_; first | assumption | omega | (simp [go_sem] <;> omega) | with_unfolding_all rfl | decide)) only [go_sem, Nat.reduceAdd, Nat.reduceSub, reduceIte, reduceCtorEq, ay, Int.reduceBEq, q1, q2, q3, q4, q5, b1, t1, hH]
 ·rw [show ((UInt8.toNat 110 : Nat) : Int) = 110 from rfl, show setE E 110 w = E.set 5 (.int .i64 (atoV w)) from rfl]
  have b1 := b 5 (by omega)
  have t1 : ∀ v : AV, E.take 5 ++ v :: E.drop 6 = E.set 5 v := fun v => tkd (by omega)
  simp only [Nat.zero_add, Nat.reduceAdd] at b1
  simp (maxSteps := 4000000) -implicitDefEqProofs (disch := (refine ab ?_; first | assumption | omega | (simp [go_sem] <;> omega) | with_unfolding_all rfl | decide)) only [go_sem, Nat.reduceAdd, Nat.reduceSub, reduceIte, reduceCtorEq, ay, Int.reduceBEq, q1, q2, q3, q4, q5, b1, t1, hH]
 ·rw [show ((UInt8.toNat 109 : Nat) : Int) = 109 from rfl, show setE E 109 w = E.set 6 (.int .i64 (atoV w)) from rfl]
  have b1 := b 6 (by omega)
  have t1 : ∀ v : AV, E.take 6 ++ v :: E.drop 7 = E.set 6 v := fun v => tkd (by omega)
  simp only [Nat.zero_add, Nat.reduceAdd] at b1
  simp (maxSteps := 4000000) -implicitDefEqProofs (disch := (refine ab ?_; first | assumption | omega | (simp [go_sem] <;> omega) | with_unfolding_all rfl | decide)) only [go_sem, Nat.reduceAdd, Nat.reduceSub, reduceIte, reduceCtorEq, ay, Int.reduceBEq, q1, q2, q3, q4, q5, b1, t1, hH]
 ·rw [show ((UInt8.toNat 111 : Nat) : Int) = 111 from rfl, show setE E 111 w = E.set 4 (ownV w) from rfl]
  have b1 := b 4 (by omega)
  have t1 : ∀ v : AV, E.take 4 ++ v :: E.drop 5 = E.set 4 v := fun v => tkd (by omega)
  simp only [Nat.zero_add, Nat.reduceAdd] at b1
  unfold ownV at q3 ⊢
  by_cases h0 : w = [45]
  ·rw [if_pos h0] at q3 ⊢
   simp (maxSteps := 4000000) -implicitDefEqProofs (disch := (refine ab ?_; first | assumption | omega | (simp [go_sem] <;> omega) | with_unfolding_all rfl | decide)) only [go_sem, Nat.reduceAdd, Nat.reduceSub, reduceIte, reduceCtorEq, ay, Int.reduceBEq, q1, q2, q3, q4, q5, b1, t1, hH]
  ·rw [if_neg h0] at q3 ⊢
   by_cases h1 : rigO (pcs 44 w) = true
   ·rw [if_pos h1] at q3 ⊢
    simp (maxSteps := 4000000) -implicitDefEqProofs (disch := (refine ab ?_; first | assumption | omega | (simp [go_sem] <;> omega) | with_unfolding_all rfl | decide)) only [go_sem, Nat.reduceAdd, Nat.reduceSub, reduceIte, reduceCtorEq, ay, Int.reduceBEq, q1, q2, q3, q4, q5, b1, t1, hH]
   ·rw [if_neg h1] at q3 ⊢
    simp (maxSteps := 4000000) -implicitDefEqProofs (disch := (refine ab ?_; first | assumption | omega | (simp [go_sem] <;> omega) | with_unfolding_all rfl | decide)) only [go_sem, Nat.reduceAdd, Nat.reduceSub, reduceIte, reduceCtorEq, ay, Int.reduceBEq, q1, q2, q3, q4, q5, b1, t1, hH]
 ·rw [show ((UInt8.toNat 116 : Nat) : Int) = 116 from rfl, show setE E 116 w = E.set 7 (ow ((txtW w).map encB)) from rfl]
  have b1 := b 7 (by omega)
  have t1 : ∀ v : AV, E.take 7 ++ v :: E.drop 8 = E.set 7 v := fun v => tkd (by omega)
  simp only [Nat.zero_add, Nat.reduceAdd] at b1
  simp (maxSteps := 4000000) -implicitDefEqProofs (disch := (refine ab ?_; first | assumption | omega | (simp [go_sem] <;> omega) | with_unfolding_all rfl | decide)) only [go_sem, Nat.reduceAdd, Nat.reduceSub, reduceIte, reduceCtorEq, ay, Int.reduceBEq, q1, q2, q3, q4, q5, b1, t1, hH]
 ·rw [show ((UInt8.toNat 99 : Nat) : Int) = 99 from rfl, show setE E 99 w = E.set 8 (.str ⟨w.toArray⟩) from rfl]
  have b1 := b 8 (by omega)
  have t1 : ∀ v : AV, E.take 8 ++ v :: E.drop 9 = E.set 8 v := fun v => tkd (by omega)
  simp only [Nat.zero_add, Nat.reduceAdd] at b1
  simp (maxSteps := 4000000) -implicitDefEqProofs (disch := (refine ab ?_; first | assumption | omega | (simp [go_sem] <;> omega) | with_unfolding_all rfl | decide)) only [go_sem, Nat.reduceAdd, Nat.reduceSub, reduceIte, reduceCtorEq, ay, Int.reduceBEq, q1, q2, q3, q4, q5, b1, t1, hH]
 ·rw [show ((UInt8.toNat 119 : Nat) : Int) = 119 from rfl, show setE E 119 w = E.set 10 (.bool (w == [119])) from rfl]
  have b1 := b 10 (by omega)
  have t1 : ∀ v : AV, E.take 10 ++ v :: E.drop 11 = E.set 10 v := fun v => tkd (by omega)
  simp only [Nat.zero_add, Nat.reduceAdd] at b1
  simp (maxSteps := 4000000) -implicitDefEqProofs (disch := (refine ab ?_; first | assumption | omega | (simp [go_sem] <;> omega) | with_unfolding_all rfl | decide)) only [go_sem, Nat.reduceAdd, Nat.reduceSub, reduceIte, reduceCtorEq, ay, Int.reduceBEq, q1, q2, q3, q4, q5, b1, t1, hH]
end Go.Proofs.YtibchilpaaiecaaGreatDoor.L
/- speech.Parse: walked. -/
set_option linter.all false
set_option maxRecDepth 100000
set_option maxHeartbeats 32000000
namespace Go.Proofs.YtibchilpaaiecaaGreatDoor.L
open Go.Proofs.YtibchilpaaiecaaGreatDoor.M Go.Proofs.YtibchilpaaiecaaGreatDoor.F Go.Proofs
def prE : List AV → List UInt8 → List (List UInt8) → List AV
 | E, p :: ps, w :: ws => prE (setE E p w) ps ws
 | E, _, _ => E
def prC : Cal → List UInt8 → List (List UInt8) → Cal
 | o, p :: ps, w :: ws => prC (setP o p w) ps ws
 | o, _, _ => o
theorem B9 : ∀ (ps : List UInt8) (ws : List (List UInt8)) (E : List AV), (prE E ps ws).length = E.length
 | [], _, E => by simp [prE]
 | _ :: _, [], E => by simp [prE]
 | p :: ps, w :: ws, E => by rw [prE, B9 ps ws, xN]
theorem Fv : ∀ (ps : List UInt8) (ws : List (List UInt8)) (E : List AV) (o : Cal), shL E = encC o → shL (prE E ps ws) = encC (prC o ps ws)
 | [], _, E, o, h => by simpa [prE, prC] using h
 | _ :: _, [], E, o, h => by simpa [prE, prC] using h
 | p :: ps, w :: ws, E, o, h => by rw [prE, prC]; exact Fv ps ws _ _ (Ia h p w)
theorem xO (E : List AV) : ∀ ps : List UInt8, prE E ps [] = E
 | [] => rfl
 | _ :: _ => rfl
theorem Kf {H : AH} {b : Nat} {Y : Bx} (h : H[b]? = some Y) : H.set b Y = H := by
 obtain ⟨h1, h2⟩ := List.getElem?_eq_some_iff.1 h
 rw [← h2]; exact List.set_getElem_self h1
theorem yX {v0 v2 : AV} {b0 : Nat} {f : List UInt8} {ws : List (List UInt8)} (hf : f.length ≤ 6) (hfit : ∀ p ∈ f, p = 97 ∨ p = 115 ∨ p = 108 ∨ p = 101 ∨ p = 110 ∨ p = 109 ∨ p = 111 ∨ p = 116 ∨ p = 99 ∨ p = 119) (hw : ∀ w ∈ ws, w.length ≤ 900000000) (hn : ws.length ≤ 1000000000) : ∀ (d i : Nat) (E : List AV) (H : AH), d + i = f.length → E.length = 11 → H[b0]? = some (.cells E) →
  den U (.loop cZ) (dT v0 v2 (.sl .sh (ws.map encT)) (.box b0 0) (.sl .sh (f.map encB)) (.int .i64 f.length) (.int .i64 i)) H = some (.exit 0, n5 v0 v2 (.box b0 0), H.set b0 (.cells (prE E (f.drop i) (ws.drop (i + 1))))) := by
 intro d
 induction d with
 | zero =>
  intro i E H hd hE hH
  have hd' : decide ((i : Int) < f.length) = false := decide_eq_false (by omega)
  rw [List.drop_eq_nil_of_le (show f.length ≤ i by omega), prE]
  ·rw [Kf hH, ae]
   simp -implicitDefEqProofs (disch := (refine ab ?_; first | assumption | omega | (simp [go_sem] <;> omega) | with_unfolding_all rfl | decide)) only [go_sem, Nat.reduceAdd, Nat.reduceSub, reduceIte, reduceCtorEq, hd']
  ·intro p ps w ws h; cases h
 | succ d ih =>
  intro i E H hd hE hH
  have hib : i < f.length := by omega
  have hd' : decide ((i : Int) < f.length) = true := decide_eq_true (by omega)
  have hge : (f.map encB)[(i : Int).toNat]? = some (encB f[i]) := by simp [hib]
  have hdr : f.drop i = f[i] :: f.drop (i + 1) := List.drop_eq_getElem_cons hib
  have e7 := incP (n := i) (by omega)
  have hp := hfit _ (List.getElem_mem hib)
  have hml : (ws.map encT).length = ws.length := List.length_map ..
  rw [hdr]
  generalize f[i] = p at *
  simp only [encB] at hge
  by_cases hj : i + 1 < ws.length
  ·have hj' : decide (((i + 1 : Nat) : Int) < ws.length) = true := decide_eq_true (by omega)
   have hgw : (ws.map encT)[(((i + 1 : Nat) : Int)).toNat]? = some (encT ws[i + 1]) := by simp [hj]
   have hdw : ws.drop (i + 1) = ws[i + 1] :: ws.drop (i + 1 + 1) := List.drop_eq_getElem_cons hj
   have hwl := hw _ (List.getElem_mem hj)
   rw [hdw, prE]
   generalize ws[i + 1] = w at *
   simp only [encT] at hgw
   have q := yW (p := p) (w := w) hH hE hwl hp
   have hlt := (List.getElem?_eq_some_iff.1 hH).1
   have ih' := ih (i + 1) (setE E p w) (H.set b0 (.cells (setE E p w))) (by omega) (by rw [xN]; exact hE) (by rw [List.getElem?_set_self hlt])
   rw [List.set_set] at ih'
   generalize setE E p w = E2 at *
   have hstep : den U (.loop cZ) (dT v0 v2 (.sl .sh (ws.map encT)) (.box b0 0) (.sl .sh (f.map encB)) (.int .i64 f.length) (.int .i64 i)) H = den U (.loop cZ) (dT v0 v2 (.sl .sh (ws.map encT)) (.box b0 0) (.sl .sh (f.map encB)) (.int .i64 f.length) (.int .i64 (i + 1 : Nat))) (H.set b0 (.cells E2)) := by
    conv => lhs; rw [ae]
    simp (maxSteps := 4000000) -implicitDefEqProofs (disch := (refine ab ?_; first | assumption | omega | (simp [go_sem] <;> omega) | with_unfolding_all rfl | decide)) only [go_sem, Nat.reduceAdd, Nat.reduceSub, reduceIte, reduceCtorEq, hd', hge, e7, hml, hj', hgw, q]
    try rfl
   rw [hstep]
   exact ih'
  ·have hj' : decide (((i + 1 : Nat) : Int) < ws.length) = false := decide_eq_false (by omega)
   have ih' := ih (i + 1) E H (by omega) hE hH
   rw [List.drop_eq_nil_of_le (show ws.length ≤ i + 1 + 1 by omega), xO] at ih'
   rw [List.drop_eq_nil_of_le (show ws.length ≤ i + 1 by omega), xO]
   have hstep : den U (.loop cZ) (dT v0 v2 (.sl .sh (ws.map encT)) (.box b0 0) (.sl .sh (f.map encB)) (.int .i64 f.length) (.int .i64 i)) H = den U (.loop cZ) (dT v0 v2 (.sl .sh (ws.map encT)) (.box b0 0) (.sl .sh (f.map encB)) (.int .i64 f.length) (.int .i64 (i + 1 : Nat))) H := by
    conv => lhs; rw [ae]
    simp (maxSteps := 4000000) -implicitDefEqProofs (disch := (refine ab ?_; first | assumption | omega | (simp [go_sem] <;> omega) | with_unfolding_all rfl | decide)) only [go_sem, Nat.reduceAdd, Nat.reduceSub, reduceIte, reduceCtorEq, hd', hge, e7, hml, hj']
    try rfl
   rw [hstep]
   exact ih'
def opW (s : List UInt8) : Int := ixF 0 nmL ((pcs 32 s).head?.getD [])
def mkC (s : List UInt8) : Cal := prC (eA (opW s)) (fS (opW s)) (pcs 32 s).tail
def spB : ByteArray := ⟨#[115, 112, 101, 101, 99, 104]⟩
def parT (s : List UInt8) : Except Int Cal := if opW s < 0 then .error 30 else if cTxt (mkC s) = s then .ok (mkC s) else .error 10
def resT (s : List UInt8) : AV := match parT s with | .ok c => .tup [.agg (encC c), .nili] | .error e => .tup [.agg (encC (eA 0)), fT spB e .nili]
theorem Ca : ∀ (l : List (List UInt8)) (i : Nat) (w : List UInt8), ixF i l w = -1 ∨ (i ≤ ixF i l w ∧ ixF i l w < i + l.length)
 | [], i, w => .inl rfl
 | x :: r, i, w => by
  rw [ixF]
  split
  ·right; simp <;> omega
  ·rcases Ca r (i + 1) w with h | ⟨h1, h2⟩
   ·exact .inl h
   ·right; rw [List.length_cons]; omega
theorem wc (s : List UInt8) : opW s = -1 ∨ (0 ≤ opW s ∧ opW s ≤ 20) := by
 rcases Ca nmL 0 ((pcs 32 s).head?.getD []) with h | ⟨h1, h2⟩
 ·exact .inl h
 ·right
  have : nmL.length = 21 := rfl
  unfold opW; omega
theorem Ei {s : ByteArray} {c : Int} {b : AV} : (fT s c b).sh = fT s c b := rfl
theorem uL {c : Int} {h : AH} (hc : c ≠ 0) : run T 44 [.str spB, .int .i64 c] h = some (fT spB c .nili, h) := by
 have h1 := fun h => Dw (s := spB) (h := h) hc
 rw [af T_44]
 simp -implicitDefEqProofs (disch := (refine ab ?_; first | assumption | omega | (simp [go_sem] <;> omega) | with_unfolding_all rfl | decide)) only [go_sem, Nat.reduceAdd, Nat.reduceSub, reduceIte, reduceCtorEq, jt, h1, Ei]
theorem we {s : List UInt8} {h : AH} (hs : s.length ≤ 900000000) (hok : 0 ≤ opW s → okC (mkC s)) : run U 13 [.str ⟨s.toArray⟩] h = some (resT s, h) := by
 have q1 := upU (rk (s := s) (c := 32) (h := []) hs)
 have q2 := upU uH
 have q3 := upU uI
 obtain ⟨x, xs, hp⟩ := lS 32 s
 have hop : opW s = ixF 0 nmL x := by unfold opW; rw [hp]; rfl
 have q4 := upU (wa (l := nmL) (w := x) (h := []) (by decide))
 rw [← hop] at q4
 have hg : ((pcs 32 s).map encT)[(0 : Int).toNat]? = some [.str ⟨x.toArray⟩] := by rw [hp]; rfl
 have hwl : ∀ w ∈ pcs 32 s, w.length ≤ 900000000 := fun w hw => by have := kN hw; omega
 have hwn := vZ 32 s
 have hl1 : ∀ X : Bx, (h ++ [X]).length = h.length + 1 := fun X => by simp
 rw [af (show U 13 = some (.code dr) from rfl)]
 unfold resT parT
 rcases wc s with ho | ho
 ·have d1 : decide (opW s < 0) = true := decide_eq_true (by omega)
  rw [if_pos (by omega)]
  simp only
  have q5 := fun h => upU (uL (c := 30) (h := h) (by decide))
  simp only [spB, eA, encC] at q5 ⊢
  generalize pcs 32 s = ws at *
  generalize opW s = op at *
  generalize nmL = nl at *
  simp (maxSteps := 4000000) -implicitDefEqProofs (disch := (refine ab ?_; first | assumption | omega | (simp [go_sem] <;> omega) | with_unfolding_all rfl | decide)) only [go_sem, Nat.reduceAdd, Nat.reduceSub, reduceIte, reduceCtorEq, dr, q1, q2, hg, q4, d1, q5, List.map_nil, Ei, ew, ey, hl1]
 ·have d1 : decide (opW s < 0) = false := decide_eq_false (by omega)
  rw [if_neg (by omega)]
  have h0 : 0 ≤ opW s := ho.1
  have q5 := Fu (op := opW s) ho
  obtain ⟨f1, f2⟩ := nV (opW s)
  let E0 : List AV := [.int .i64 (opW s), ow [], ow [], ow [], ow [], .int .i64 0, .int .i64 0, ow [], .str ⟨#[]⟩, ow [], .bool false]
  have hE0 : E0 = [.int .i64 (opW s), ow [], ow [], ow [], ow [], .int .i64 0, .int .i64 0, ow [], .str ⟨#[]⟩, ow [], .bool false] := rfl
  have hEs : shL E0 = encC (eA (opW s)) := by simp only [hE0, shL, nZ, AV.sh]; rfl
  have q6 := yX (v0 := .str ⟨s.toArray⟩) (v2 := .box h.length 0) (b0 := h.length + 1) f1 f2 hwl (by omega) (fS (opW s)).length 0 E0 (h ++ [.cells [.int .i64 0, ow [], ow [], ow [], ow [], .int .i64 0, .int .i64 0, ow [], .str ⟨#[]⟩, ow [], .bool false], .cells E0]) (by omega) rfl (by rw [nH]; rfl)
  rw [nI] at q6
  simp only [List.set_cons_succ, List.set_cons_zero] at q6
  simp only [show ((0 : Nat) : Int) = 0 from rfl, List.drop_zero, Nat.zero_add] at q6
  have hsh := Fv (fS (opW s)) (pcs 32 s).tail E0 _ hEs
  have hlen := B9 (fS (opW s)) (pcs 32 s).tail E0
  rw [show E0.length = 11 from rfl] at hlen
  rw [List.drop_one] at q6
  rw [show prC (eA (opW s)) (fS (opW s)) (pcs 32 s).tail = mkC s from rfl] at hsh
  have q7 := Ec (hok h0)
  have q8 := fun h => upU (uL (c := 10) (h := h) (by decide))
  generalize prE E0 (fS (opW s)) (pcs 32 s).tail = E at *
  have b1 : Nat.ble (0 + 11) E.length = true := by rw [hlen]; rfl
  have t1 : E.take 11 = E := List.take_of_length_le (by omega)
  rw [hE0] at q6
  clear hE0 hEs hok
  clear_value E0
  clear E0
  generalize mkC s = c at *
  simp only [encT] at q5
  generalize hfs : fS (opW s) = f at *
  generalize pcs 32 s = ws at *
  generalize opW s = op at *
  generalize nmL = nl at *
  generalize fmL = fl at *
  by_cases ht : cTxt c = s
  ·have e1 : (cTxt c == s) = true := by simp [ht]
   rw [if_pos ht]
   simp only
   obtain ⟨a1, a2, a3, a4, a5, a6, a7, a8, a9, a10, a11⟩ := c
   simp only [encC] at q7 hsh ⊢
   simp (maxSteps := 4000000) -implicitDefEqProofs (disch := (refine ab ?_; first | assumption | omega | (simp [go_sem] <;> omega) | with_unfolding_all rfl | decide)) only [go_sem, Nat.reduceAdd, Nat.reduceSub, reduceIte, reduceCtorEq, dr, q1, q2, q3, hg, q4, d1, q5, q6, q7, b1, t1, hsh, e1, Ei, nH, nI, ew, ey, hl1, List.map_nil, List.length_map, Bool.not_true, Bool.not_false]
  ·have e1 : (cTxt c == s) = false := by simp [ht]
   rw [if_neg ht]
   simp only
   simp only [spB, eA] at q8 ⊢
   obtain ⟨a1, a2, a3, a4, a5, a6, a7, a8, a9, a10, a11⟩ := c
   simp only [encC] at q7 hsh ⊢
   simp (maxSteps := 4000000) -implicitDefEqProofs (disch := (refine ab ?_; first | assumption | omega | (simp [go_sem] <;> omega) | with_unfolding_all rfl | decide)) only [go_sem, Nat.reduceAdd, Nat.reduceSub, reduceIte, reduceCtorEq, dr, q1, q2, q3, hg, q4, d1, q5, q6, q7, q8, b1, t1, hsh, e1, Ei, nH, nI, ew, ey, hl1, List.map_nil, List.length_map, Bool.not_true, Bool.not_false]
end Go.Proofs.YtibchilpaaiecaaGreatDoor.L
