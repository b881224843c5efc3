/- The document's words read: labels, ownerships, paths, bytes: walked; faults asked. -/
import Derived.Test.YtibchilpaaiecaaGreatDoorL137
set_option linter.all false
set_option maxRecDepth 100000
set_option maxHeartbeats 32000000
namespace Go.Proofs.YtibchilpaaiecaaGreatDoor.L
open Go.Proofs.YtibchilpaaiecaaGreatDoor.M Go.Proofs.YtibchilpaaiecaaGreatDoor.F Go.Proofs
def entR (w : List UInt8) : Option Ent := match pcs 61 w with
 | [a, b] => if (numR b).2 = true then some (a, (numR b).1) else none
 | _ => none
def labR : List Ent → List (List UInt8) → Option (List Ent)
 | acc, [] => some acc
 | acc, w :: ws => match entR w with
  | some e => labR (acc ++ [e]) ws
  | none => none
def Ck (s : List UInt8) : List Ent × Bool :=
 if s = [45] then ([], true) else match labR [] (pcs 44 s) with
  | none => ([], false)
  | some q => if rigL q = true then (q, true) else ([], false)
theorem Cl {ws : List (List UInt8)} {h : AH} (hl : ws.length ≤ 100000) (hw : ∀ w ∈ ws, w.length ≤ 100000) : ∀ (d i : Nat) (p : List Ent), d + i = ws.length → p.length ≤ i →
  (∃ q, labR p (ws.drop i) = some q ∧ den T (.loop bQ) (cR (ow (p.map encE)) (ow (ws.map encT)) (.int .i64 ws.length) (.int .i64 i)) h = some (.exit 0, jI (ow (q.map encE)), h)) ∨
  (labR p (ws.drop i) = none ∧ ∃ σ, den T (.loop bQ) (cR (ow (p.map encE)) (ow (ws.map encT)) (.int .i64 ws.length) (.int .i64 i)) h = some (.ret, σ, h) ∧ σ.getD 2 aa = ow [] ∧ σ.getD 3 aa = .bool false) := by
 intro d
 induction d with
 | zero =>
  intro i p hd hp
  have hd' : decide ((i : Int) < ws.length) = false := decide_eq_false (by omega)
  refine .inl ⟨p, by rw [List.drop_eq_nil_of_le (by omega)]; rfl, ?_⟩
  rw [ae]
  simp -implicitDefEqProofs (disch := (refine ab ?_; first | assumption | omega | (simp [go_sem] <;> omega) | with_unfolding_all rfl | decide)) only [go_sem, Nat.reduceAdd, Nat.reduceSub, reduceIte, reduceCtorEq, hd']
 | succ d ih =>
  intro i p hd hp
  have hib : i < ws.length := by omega
  have hd' : decide ((i : Int) < ws.length) = true := decide_eq_true (by omega)
  have hge : (ws.map encT)[(i : Int).toNat]? = some (encT ws[i]) := by simp [hib]
  have hdr : ws.drop i = ws[i] :: ws.drop (i + 1) := List.drop_eq_getElem_cons hib
  have e7 := incP (n := i) (by omega)
  have hwl := hw _ (List.getElem_mem hib)
  rw [hdr, labR]
  generalize ws[i] = w at *
  have q1 := nd (s := w) (c := 61) (by omega)
  rw [show ((UInt8.toNat 61 : Nat) : Int) = 61 from rfl] at q1
  have hpl : ∀ x ∈ pcs 61 w, x.length ≤ 100000 := fun x hx => by have := kN hx; omega
  simp only [encT] at hge
  unfold entR
  have hbad : (pcs 61 w).length ≠ 2 → (match pcs 61 w with | [a, b] => if (numR b).2 = true then some (a, (numR b).1) else none | _ => none : Option Ent) = none := by
   intro hn
   split
   ·rename_i a b h2; rw [h2] at hn; exact absurd rfl hn
   ·rfl
  by_cases h2 : (pcs 61 w).length = 2
  ·obtain ⟨a, b, hab⟩ : ∃ a b, pcs 61 w = [a, b] := by
    match pcs 61 w, h2 with
    | [a, b], _ => exact ⟨a, b, rfl⟩
   rw [hab] at q1 hpl ⊢
   clear hbad h2
   have q2 := uP (s := b) (by have := hpl b (by simp); omega)
   have n2 : (((2 : Nat) : Int) != 2) = false := rfl
   simp only [List.map_cons, List.map_nil, encT] at q1
   simp only
   generalize numR b = nb at *
   obtain ⟨v, ok⟩ := nb
   simp only at q2 ⊢
   cases ok with
   | false =>
    rw [if_neg (by simp)]
    refine .inr ⟨rfl, ?_⟩
    rw [ae]
    simp (maxSteps := 4000000) -implicitDefEqProofs (disch := (refine ab ?_; first | assumption | omega | (simp [go_sem] <;> omega) | with_unfolding_all rfl | decide)) only [go_sem, Nat.reduceAdd, Nat.reduceSub, reduceIte, reduceCtorEq, hd', hge, q1, q2, n2, show (1 : Int).toNat = 1 from rfl, show (0 : Int).toNat = 0 from rfl, Bool.not_false]
    exact ⟨_, rfl, rfl, rfl⟩
   | true =>
    rw [if_pos rfl]
    have ih' := ih (i + 1) (p ++ [(a, v)]) (by omega) (by simp; omega)
    have hml : (p.map encE).length = p.length := List.length_map ..
    rw [show (p ++ [(a, v)]).map encE = p.map encE ++ [[.str ⟨a.toArray⟩, .int .i64 v]] by simp [encE]] at ih'
    have hstep : den T (.loop bQ) (cR (ow (p.map encE)) (ow (ws.map encT)) (.int .i64 ws.length) (.int .i64 i)) h = den T (.loop bQ) (cR (ow (p.map encE ++ [[.str ⟨a.toArray⟩, .int .i64 v]])) (ow (ws.map encT)) (.int .i64 ws.length) (.int .i64 (i + 1 : Nat))) h := by
     conv => lhs; rw [ae]
     simp (maxSteps := 4000000) -implicitDefEqProofs (disch := (refine ab ?_; first | assumption | omega | (simp [go_sem] <;> omega) | with_unfolding_all rfl | decide)) only [go_sem, Nat.reduceAdd, Nat.reduceSub, reduceIte, reduceCtorEq, hd', hge, q1, q2, n2, show (1 : Int).toNat = 1 from rfl, show (0 : Int).toNat = 0 from rfl, Bool.not_true, hml, e7]
     try rfl
    rw [hstep]
    exact ih'
  ·rw [hbad h2]
   have hml : ((pcs 61 w).map encT).length = (pcs 61 w).length := List.length_map ..
   have n2 : (((pcs 61 w).length : Int) != 2) = true := by rw [bne_iff_ne]; omega
   refine .inr ⟨rfl, ?_⟩
   generalize pcs 61 w = z at *
   rw [ae]
   simp (maxSteps := 4000000) -implicitDefEqProofs (disch := (refine ab ?_; first | assumption | omega | (simp [go_sem] <;> omega) | with_unfolding_all rfl | decide)) only [go_sem, Nat.reduceAdd, Nat.reduceSub, reduceIte, reduceCtorEq, hd', hge, q1, hml, n2]
   exact ⟨_, rfl, rfl, rfl⟩
theorem xY {c : UInt8} {s : List UInt8} (hs : s.length ≤ 90000) : (pcs c s).length ≤ 100000 ∧ ∀ w ∈ pcs c s, w.length ≤ 100000 :=
 ⟨by have := vZ c s; omega, fun w hw => by have := kN hw; omega⟩
theorem Ew {w : List UInt8} {e : Ent} (h : entR w = some e) : e.1.length ≤ w.length := by
 unfold entR at h
 split at h
 ·rename_i a b hab
  split at h
  ·cases h
   exact kN (c := 61) (s := w) (by rw [hab]; simp)
  ·cases h
 ·cases h
theorem xZ {B : Nat} : ∀ (l : List (List UInt8)) (a q : List Ent), labR a l = some q → (∀ w ∈ l, w.length ≤ B) → (∀ e ∈ a, e.1.length ≤ B) → ∀ e ∈ q, e.1.length ≤ B
 | [], a, q, h, _, ha => by simp only [labR, Option.some.injEq] at h; subst h; exact ha
 | w :: l, a, q, h, hl, ha => by
  simp only [labR] at h
  cases hb : entR w with
  | none => rw [hb] at h; cases h
  | some e =>
   rw [hb] at h
   refine xZ l _ _ h (fun x hx => hl x (List.mem_cons_of_mem _ hx)) fun x hx => ?_
   rcases List.mem_append.1 hx with hx | hx
   ·exact ha x hx
   ·rw [List.mem_singleton] at hx
    subst hx
    exact Nat.le_trans (Ew hb) (hl w (by simp))
theorem x5 {s : List UInt8} (hs : s.length ≤ 90000) : run T 17 [.str ⟨s.toArray⟩] [] = some (.tup [ow ((Ck s).1.map encE), .bool (Ck s).2], []) := by
 rw [af T_17]
 unfold Ck
 by_cases h0 : s = [45]
 ·have e1 : (s == [45]) = true := by rw [h0]; rfl
  rw [if_pos h0]
  simp (maxSteps := 2000000) -implicitDefEqProofs (disch := (refine ab ?_; first | assumption | omega | (simp [go_sem] <;> omega) | with_unfolding_all rfl | decide)) only [go_sem, Nat.reduceAdd, Nat.reduceSub, reduceIte, reduceCtorEq, bm, e1, List.map_nil]
 ·have e1 : (s == [45]) = false := by simpa using h0
  rw [if_neg h0]
  have q1 := nd (s := s) (c := 44) (by omega)
  rw [show ((UInt8.toNat 44 : Nat) : Int) = 44 from rfl] at q1
  obtain ⟨w1, w2⟩ := xY (c := 44) hs
  have hml : ((pcs 44 s).map encT).length = (pcs 44 s).length := List.length_map ..
  have hlen := fun q hq => xZ (B := 100000) (pcs 44 s) [] q hq w2 (fun e he => by cases he)
  rcases Cl (h := []) w1 w2 (pcs 44 s).length 0 [] (by omega) (by simp) with ⟨q, h1, h2⟩ | ⟨h1, σ, h2, h3, h4⟩
  ·simp only [show ((0 : Nat) : Int) = 0 from rfl, List.drop_zero, List.map_nil] at h1 h2
   rw [h1]
   simp only
   have q2 := sX (l := q) (h := []) fun e he => by have := hlen q h1 e he; omega
   generalize pcs 44 s = z at *
   cases hr : rigL q with
   | true =>
    rw [hr] at q2
    rw [if_pos rfl]
    simp (maxSteps := 2000000) -implicitDefEqProofs (disch := (refine ab ?_; first | assumption | omega | (simp [go_sem] <;> omega) | with_unfolding_all rfl | decide)) only [go_sem, Nat.reduceAdd, Nat.reduceSub, reduceIte, reduceCtorEq, bm, e1, q1, hml, h2, q2, Bool.not_true]
   | false =>
    rw [hr] at q2
    rw [if_neg (by simp)]
    simp (maxSteps := 2000000) -implicitDefEqProofs (disch := (refine ab ?_; first | assumption | omega | (simp [go_sem] <;> omega) | with_unfolding_all rfl | decide)) only [go_sem, Nat.reduceAdd, Nat.reduceSub, reduceIte, reduceCtorEq, bm, e1, q1, hml, h2, q2, Bool.not_false, List.map_nil]
  ·simp only [show ((0 : Nat) : Int) = 0 from rfl, List.drop_zero, List.map_nil] at h1 h2
   rw [h1]
   generalize pcs 44 s = z at *
   simp (maxSteps := 2000000) -implicitDefEqProofs (disch := (refine ab ?_; first | assumption | omega | (simp [go_sem] <;> omega) | with_unfolding_all rfl | decide)) only [go_sem, Nat.reduceAdd, Nat.reduceSub, reduceIte, reduceCtorEq, bm, e1, q1, hml, h2, h3, h4, List.map_nil]
theorem x6 {s : List UInt8} (hs : s.length ≤ 90000) : run T 19 [.str ⟨s.toArray⟩] [] = some (.tup [ow ((ownP s).1.map encT), .bool (ownP s).2], []) := by
 rw [af T_19]
 unfold ownP
 by_cases h0 : s = [45]
 ·have e1 : (s == [45]) = true := by rw [h0]; rfl
  rw [if_pos h0]
  simp (maxSteps := 2000000) -implicitDefEqProofs (disch := (refine ab ?_; first | assumption | omega | (simp [go_sem] <;> omega) | with_unfolding_all rfl | decide)) only [go_sem, Nat.reduceAdd, Nat.reduceSub, reduceIte, reduceCtorEq, cn, e1, List.map_nil]
 ·have e1 : (s == [45]) = false := by simpa using h0
  rw [if_neg h0]
  have q1 := nd (s := s) (c := 44) (by omega)
  rw [show ((UInt8.toNat 44 : Nat) : Int) = 44 from rfl] at q1
  obtain ⟨w1, w2⟩ := xY (c := 44) hs
  have q2 := Cd (l := pcs 44 s) (fun w hw => by have := w2 w hw; omega) (by omega)
  rw [uN] at q2
  generalize pcs 44 s = l at *
  cases hr : rigO l with
  | true =>
   rw [hr] at q2
   rw [if_pos rfl]
   simp (maxSteps := 2000000) -implicitDefEqProofs (disch := (refine ab ?_; first | assumption | omega | (simp [go_sem] <;> omega) | with_unfolding_all rfl | decide)) only [go_sem, Nat.reduceAdd, Nat.reduceSub, reduceIte, reduceCtorEq, cn, e1, q1, q2, Bool.not_true]
  | false =>
   rw [hr] at q2
   rw [if_neg (by simp)]
   simp (maxSteps := 2000000) -implicitDefEqProofs (disch := (refine ab ?_; first | assumption | omega | (simp [go_sem] <;> omega) | with_unfolding_all rfl | decide)) only [go_sem, Nat.reduceAdd, Nat.reduceSub, reduceIte, reduceCtorEq, cn, e1, q1, q2, Bool.not_false, List.map_nil]
def nf (s : List UInt8) : Bool := if s = [46] then true else (prsP s).2 && decide ((prsP s).1 ≠ [])
theorem Cm {s : List UInt8} (hs : s.length ≤ 90000) : run T 51 [.str ⟨s.toArray⟩] [] = some (.tup [frmV s, .bool (nf s)], []) := by
 rw [af T_51]
 unfold frmV nf
 by_cases h0 : s = [46]
 ·have e1 : (s == [46]) = true := by rw [h0]; rfl
  rw [if_pos h0, if_pos h0]
  simp (maxSteps := 2000000) -implicitDefEqProofs (disch := (refine ab ?_; first | assumption | omega | (simp [go_sem] <;> omega) | with_unfolding_all rfl | decide)) only [go_sem, Nat.reduceAdd, Nat.reduceSub, reduceIte, reduceCtorEq, bV, e1]
 ·have e1 : (s == [46]) = false := by simpa using h0
  rw [if_neg h0, if_neg h0]
  have q1 := HZ (s := s) (h := []) (by omega)
  have d1 : decide (((prsP s).1.length : Int) > 0) = decide ((prsP s).1 ≠ []) := by
   cases (prsP s).1 with
   | nil => rfl
   | cons a l => simp <;> omega
  generalize prsP s = z at *
  obtain ⟨l, b⟩ := z
  simp only at q1 d1 ⊢
  have hml : (l.map encI).length = l.length := List.length_map ..
  cases b
  ·simp (maxSteps := 2000000) -implicitDefEqProofs (disch := (refine ab ?_; first | assumption | omega | (simp [go_sem] <;> omega) | with_unfolding_all rfl | decide)) only [go_sem, Nat.reduceAdd, Nat.reduceSub, reduceIte, reduceCtorEq, bV, e1, q1, Bool.false_and]
  ·simp (maxSteps := 2000000) -implicitDefEqProofs (disch := (refine ab ?_; first | assumption | omega | (simp [go_sem] <;> omega) | with_unfolding_all rfl | decide)) only [go_sem, Nat.reduceAdd, Nat.reduceSub, reduceIte, reduceCtorEq, bV, e1, q1, hml, d1, Bool.true_and]
def nbF (c : UInt8) : Nat → Nat → Int → Int
 | 0, _, d => d
 | f + 1, k, d => nbF c f (k + 1) (if hexD k = c then k else d)
theorem Ir (c : UInt8) : nbF c 16 0 (-1) = nib c := by
 have key : ∀ n : Nat, n < 256 → nbF (UInt8.ofNat n) 16 0 (-1) = nib (UInt8.ofNat n) := by decide +kernel
 have := key c.toNat c.toNat_lt
 rwa [UInt8.ofNat_toNat] at this
theorem Is {s : List UInt8} {i : Nat} {c : UInt8} {h : AH} {v4 v5 v6 : AV} (hi : s[i]? = some c) : ∀ (f k : Nat) (d : Int), f + k = 16 →
  den T (.loop gn) (kr (.str ⟨s.toArray⟩) v4 v5 v6 (.int .i64 i) (.int .i64 d) (.int .i64 k)) h = some (.exit 2, kv (.str ⟨s.toArray⟩) v4 v5 v6 (.int .i64 i) (.int .i64 (nbF c f k d)), h) := by
 have hg : (⟨s.toArray⟩ : ByteArray)[(i : Int).toNat]? = some c := by
  have := gL (a := s) (i := i)
  rw [Int.toNat_natCast, this, hi]
 intro f
 induction f with
 | zero =>
  intro k d hk
  have hd' : decide ((k : Int) < 16) = false := decide_eq_false (by omega)
  rw [nbF, ae]
  simp -implicitDefEqProofs (disch := (refine ab ?_; first | assumption | omega | (simp [go_sem] <;> omega) | with_unfolding_all rfl | decide)) only [go_sem, Nat.reduceAdd, Nat.reduceSub, reduceIte, reduceCtorEq, hd']
 | succ f ih =>
  intro k d hk
  have hd' : decide ((k : Int) < 16) = true := decide_eq_true (by omega)
  have g1 := B2 (n := k) (by omega)
  have e7 := incP (n := k) (by omega)
  rw [nbF]
  by_cases hx : hexD k = c
  ·have hq : (((hexD k).toNat : Int) == (c.toNat : Int)) = true := by simp [hx]
   rw [if_pos hx]
   have ih' := ih (k + 1) k (by omega)
   rw [ae]
   simp (maxSteps := 2000000) -implicitDefEqProofs (disch := (refine ab ?_; first | assumption | omega | (simp [go_sem] <;> omega) | with_unfolding_all rfl | decide)) only [go_sem, Nat.reduceAdd, Nat.reduceSub, reduceIte, reduceCtorEq, hd', g1, hg, hq, e7]
   exact ih'
  ·have hq : (((hexD k).toNat : Int) == (c.toNat : Int)) = false := by
    rw [beq_eq_false_iff_ne]; intro z; exact hx (UInt8.toNat_inj.1 (by omega))
   rw [if_neg hx]
   have ih' := ih (k + 1) d (by omega)
   rw [ae]
   simp (maxSteps := 2000000) -implicitDefEqProofs (disch := (refine ab ?_; first | assumption | omega | (simp [go_sem] <;> omega) | with_unfolding_all rfl | decide)) only [go_sem, Nat.reduceAdd, Nat.reduceSub, reduceIte, reduceCtorEq, hd', g1, hg, hq, e7]
   exact ih'
def blS : List UInt8 → Nat → Bool → List UInt8 → Option (List UInt8 × Bool)
 | acc, _, has, [] => some (acc, has)
 | acc, half, has, c :: r => if nib c < 0 then none else blS (if has then acc ++ [UInt8.ofNat (16 * half + (nib c).toNat)] else acc) (nib c).toNat (!has) r
theorem Cn {s : List UInt8} {h : AH} (hs : s.length ≤ 90000) : ∀ (d i half : Nat) (acc : List UInt8) (has : Bool), d + i = s.length → half < 16 → acc.length ≤ i →
  (∃ q b hf, blS acc half has (s.drop i) = some (q, b) ∧ den T (.loop bc) (bF (.str ⟨s.toArray⟩) (ow (acc.map encB)) (.int .i64 half) (.bool has) (.int .i64 i)) h = some (.exit 0, ks (ow (q.map encB)) (.bool b), hf) ∧ hf = h) ∨
  (blS acc half has (s.drop i) = none ∧ ∃ σ, den T (.loop bc) (bF (.str ⟨s.toArray⟩) (ow (acc.map encB)) (.int .i64 half) (.bool has) (.int .i64 i)) h = some (.ret, σ, h) ∧ σ.getD 2 aa = ow [] ∧ σ.getD 3 aa = .bool false) := by
 have hz : (⟨s.toArray⟩ : ByteArray).size = s.length := by simp [ByteArray.size]
 intro d
 induction d with
 | zero =>
  intro i half acc has hd hf ha
  have hd' : decide ((i : Int) < s.length) = false := decide_eq_false (by omega)
  refine .inl ⟨acc, has, h, by rw [List.drop_eq_nil_of_le (by omega)]; rfl, ?_, rfl⟩
  rw [ae]
  simp -implicitDefEqProofs (disch := (refine ab ?_; first | assumption | omega | (simp [go_sem] <;> omega) | with_unfolding_all rfl | decide)) only [go_sem, Nat.reduceAdd, Nat.reduceSub, reduceIte, reduceCtorEq, hz, hd']
 | succ d ih =>
  intro i half acc has hd hf ha
  have hib : i < s.length := by omega
  have hd' : decide ((i : Int) < s.length) = true := decide_eq_true (by omega)
  have hdr : s.drop i = s[i] :: s.drop (i + 1) := List.drop_eq_getElem_cons hib
  have e7 := incP (n := i) (by omega)
  have hi : s[i]? = some s[i] := by simp [hib]
  rw [hdr, blS]
  generalize s[i] = c at *
  have q1 := fun v6 => Is (h := h) (v4 := ow (acc.map encB)) (v5 := .int .i64 half) (v6 := v6) hi 16 0 (-1) rfl
  simp only [show ((0 : Nat) : Int) = 0 from rfl, Ir] at q1
  have l1 := uK c
  by_cases h1 : nib c < 0
  ·have d1 : decide (nib c < 0) = true := decide_eq_true h1
   rw [if_pos h1]
   refine .inr ⟨rfl, ?_⟩
   rw [ae]
   simp (maxSteps := 2000000) -implicitDefEqProofs (disch := (refine ab ?_; first | assumption | omega | (simp [go_sem] <;> omega) | with_unfolding_all rfl | decide)) only [go_sem, Nat.reduceAdd, Nat.reduceSub, reduceIte, reduceCtorEq, hz, hd', q1, d1]
   exact ⟨_, rfl, rfl, rfl⟩
  ·have d1 : decide (nib c < 0) = false := decide_eq_false h1
   rw [if_neg h1]
   obtain ⟨x, hx⟩ : ∃ x : Nat, nib c = x := ⟨(nib c).toNat, by omega⟩
   rw [hx] at q1 l1 d1 ⊢
   simp only [Int.toNat_natCast]
   cases has with
   | false =>
    simp only [Bool.false_eq_true, if_false, Bool.not_false]
    have ih' := ih (i + 1) x acc true (by omega) (by omega) (by omega)
    have hstep : den T (.loop bc) (bF (.str ⟨s.toArray⟩) (ow (acc.map encB)) (.int .i64 half) (.bool false) (.int .i64 i)) h = den T (.loop bc) (bF (.str ⟨s.toArray⟩) (ow (acc.map encB)) (.int .i64 x) (.bool true) (.int .i64 (i + 1 : Nat))) h := by
     conv => lhs; rw [ae]
     simp (maxSteps := 2000000) -implicitDefEqProofs (disch := (refine ab ?_; first | assumption | omega | (simp [go_sem] <;> omega) | with_unfolding_all rfl | decide)) only [go_sem, Nat.reduceAdd, Nat.reduceSub, reduceIte, reduceCtorEq, hz, hd', q1, d1, e7, Bool.not_false]
     try rfl
    rw [hstep]
    exact ih'
   | true =>
    simp only [if_true, Bool.not_true]
    have ih' := ih (i + 1) x (acc ++ [UInt8.ofNat (16 * half + x)]) false (by omega) (by omega) (by simp; omega)
    have e1 : IntKind.i64.wrap (16 * (half : Int)) = ((16 * half : Nat) : Int) := by rw [w64 (by omega) (by omega)]; omega
    have e2 : IntKind.i64.wrap (((16 * half : Nat) : Int) + (x : Int)) = ((16 * half + x : Nat) : Int) := by rw [w64 (by omega) (by omega)]; omega
    have e3 : IntKind.u8.wrap ((16 * half + x : Nat) : Int) = (((UInt8.ofNat (16 * half + x)).toNat : Nat) : Int) := by rw [w8]; simp <;> omega
    have hml : (acc.map encB).length = acc.length := List.length_map ..
    rw [show (acc ++ [UInt8.ofNat (16 * half + x)]).map encB = acc.map encB ++ [[.int .u8 ((UInt8.ofNat (16 * half + x)).toNat : Nat)]] by simp [encB]] at ih'
    have hstep : den T (.loop bc) (bF (.str ⟨s.toArray⟩) (ow (acc.map encB)) (.int .i64 half) (.bool true) (.int .i64 i)) h = den T (.loop bc) (bF (.str ⟨s.toArray⟩) (ow (acc.map encB ++ [[.int .u8 ((UInt8.ofNat (16 * half + x)).toNat : Nat)]])) (.int .i64 x) (.bool false) (.int .i64 (i + 1 : Nat))) h := by
     conv => lhs; rw [ae]
     simp (maxSteps := 2000000) -implicitDefEqProofs (disch := (refine ab ?_; first | assumption | omega | (simp [go_sem] <;> omega) | with_unfolding_all rfl | decide)) only [go_sem, Nat.reduceAdd, Nat.reduceSub, reduceIte, reduceCtorEq, hz, hd', q1, d1, e1, e2, e3, hml, e7, Bool.not_true]
     try rfl
    rw [hstep]
    exact ih'
def mj (s : List UInt8) : List UInt8 × Bool := if s = [45] then ([], true) else match blS [] 0 false s with
 | none => ([], false)
 | some (acc, has) => (acc, !has && decide (acc ≠ []))
def uQ (s : List UInt8) : AV := if s = [45] then ow [] else match blS [] 0 false s with
 | none => ow []
 | some (acc, _) => .sl .sh (acc.map encB)
theorem Ey (s : List UInt8) : (uQ s).sh = .sl .sh ((mj s).1.map encB) := by
 unfold uQ mj
 split
 ·exact nZ
 ·cases blS [] 0 false s with
  | none => exact nZ
  | some q => rfl
theorem Co {s : List UInt8} (hs : s.length ≤ 90000) : run T 53 [.str ⟨s.toArray⟩] [] = some (.tup [uQ s, .bool (mj s).2], []) := by
 rw [af T_53]
 unfold uQ mj
 by_cases h0 : s = [45]
 ·have e1 : (s == [45]) = true := by rw [h0]; rfl
  rw [if_pos h0, if_pos h0]
  simp (maxSteps := 2000000) -implicitDefEqProofs (disch := (refine ab ?_; first | assumption | omega | (simp [go_sem] <;> omega) | with_unfolding_all rfl | decide)) only [go_sem, Nat.reduceAdd, Nat.reduceSub, reduceIte, reduceCtorEq, bD, e1]
 ·have e1 : (s == [45]) = false := by simpa using h0
  rw [if_neg h0, if_neg h0]
  rcases Cn (h := []) hs s.length 0 0 [] false (by omega) (by omega) (by simp) with ⟨q, b, hf, h1, h2, rfl⟩ | ⟨h1, σ, h2, h3, h4⟩
  ·simp only [show ((0 : Nat) : Int) = 0 from rfl, List.drop_zero, List.map_nil] at h1 h2
   rw [h1]
   simp only
   have hml : (q.map encB).length = q.length := List.length_map ..
   have d1 : decide ((q.length : Int) > 0) = decide (q ≠ []) := by
    cases q with
    | nil => rfl
    | cons a l => simp <;> omega
   cases b
   ·simp (maxSteps := 2000000) -implicitDefEqProofs (disch := (refine ab ?_; first | assumption | omega | (simp [go_sem] <;> omega) | with_unfolding_all rfl | decide)) only [go_sem, Nat.reduceAdd, Nat.reduceSub, reduceIte, reduceCtorEq, bD, e1, h2, hml, d1, Bool.true_and, Bool.not_false]
   ·simp (maxSteps := 2000000) -implicitDefEqProofs (disch := (refine ab ?_; first | assumption | omega | (simp [go_sem] <;> omega) | with_unfolding_all rfl | decide)) only [go_sem, Nat.reduceAdd, Nat.reduceSub, reduceIte, reduceCtorEq, bD, e1, h2, hml, d1, Bool.false_and, Bool.not_true]
  ·simp only [show ((0 : Nat) : Int) = 0 from rfl, List.drop_zero, List.map_nil] at h1 h2
   rw [h1]
   simp (maxSteps := 2000000) -implicitDefEqProofs (disch := (refine ab ?_; first | assumption | omega | (simp [go_sem] <;> omega) | with_unfolding_all rfl | decide)) only [go_sem, Nat.reduceAdd, Nat.reduceSub, reduceIte, reduceCtorEq, bD, e1, h2, h3, h4]
theorem Ez {H : AH} : run T 21 [.nili] H = some (.int .i64 0, H) := by
 rw [af T_21]
 simp (maxSteps := 4000000) -implicitDefEqProofs (disch := (refine ab ?_; first | assumption | omega | (simp [go_sem] <;> omega) | with_unfolding_all rfl | decide)) only [go_sem, Nat.reduceAdd, Nat.reduceSub, reduceIte, reduceCtorEq, gj]
theorem It {e : Int} {H : AH} : run T 21 [fT spB e .nili] H = some (.int .i64 e, H) := by
 rw [af T_21]
 simp (maxSteps := 4000000) -implicitDefEqProofs (disch := (refine ab ?_; first | assumption | omega | (simp [go_sem] <;> omega) | with_unfolding_all rfl | decide)) only [go_sem, Nat.reduceAdd, Nat.reduceSub, reduceIte, reduceCtorEq, gj, fT]
theorem EA {e : Int} {H : AH} : run T 22 [fT spB e .nili] H = some (.str spB, H) := by
 rw [af T_22]
 simp (maxSteps := 4000000) -implicitDefEqProofs (disch := (refine ab ?_; first | assumption | omega | (simp [go_sem] <;> omega) | with_unfolding_all rfl | decide)) only [go_sem, Nat.reduceAdd, Nat.reduceSub, reduceIte, reduceCtorEq, gX, fT]
theorem EB {e : Int} {H : AH} : run T 23 [fT spB e .nili] H = some (.int .i64 1, H) := by
 have h1 : ∀ H, run T 65 [fT spB e .nili] H = some (.tup [ow [[.ref [.str spB, .int .i64 e, .nili]]], .nili], H) := fun H => by
  rw [af T_65]
  simp (maxSteps := 4000000) -implicitDefEqProofs (disch := (refine ab ?_; first | assumption | omega | (simp [go_sem] <;> omega) | with_unfolding_all rfl | decide)) only [go_sem, Nat.reduceAdd, Nat.reduceSub, reduceIte, reduceCtorEq, eJ, fT]
  rw [ae]
  simp (maxSteps := 4000000) -implicitDefEqProofs (disch := (refine ab ?_; first | assumption | omega | (simp [go_sem] <;> omega) | with_unfolding_all rfl | decide)) only [go_sem, Nat.reduceAdd, Nat.reduceSub, reduceIte, reduceCtorEq, eJ, fT]
  rw [ae]
  simp (maxSteps := 4000000) -implicitDefEqProofs (disch := (refine ab ?_; first | assumption | omega | (simp [go_sem] <;> omega) | with_unfolding_all rfl | decide)) only [go_sem, Nat.reduceAdd, Nat.reduceSub, reduceIte, reduceCtorEq, eJ, fT]
 rw [af T_23]
 simp only [fT] at h1 ⊢
 simp (maxSteps := 4000000) -implicitDefEqProofs (disch := (refine ab ?_; first | assumption | omega | (simp [go_sem] <;> omega) | with_unfolding_all rfl | decide)) only [go_sem, Nat.reduceAdd, Nat.reduceSub, reduceIte, reduceCtorEq, gY, h1]
 rfl
end Go.Proofs.YtibchilpaaiecaaGreatDoor.L
/- The document's call of a text is the program's: plain. -/
set_option linter.all false
set_option maxRecDepth 100000
set_option maxHeartbeats 32000000
namespace Go.Proofs.YtibchilpaaiecaaGreatDoor.L
open Go.Proofs.YtibchilpaaiecaaGreatDoor.M Go.Proofs.YtibchilpaaiecaaGreatDoor.F Go.Proofs
theorem Cp {u : Nat} (h : u ≤ 1000000000) : Lib.parseMag (Lib.decDigits u) = .ok u := by
 have hp := pQ u [] (by omega)
 have hn := nS u
 rw [List.append_nil] at hp
 cases hl : Lib.decDigits u with
 | nil => exact absurd hl hn
 | cons c r =>
  rw [hl] at hp
  unfold Lib.parseMag
  rw [if_neg (by simp), hp]
  rfl
theorem EC {n : Int} (h0 : -1000000000 ≤ n) (h1 : n ≤ 1000000000) : Lib.atoiAll (Lib.itoa n) = .ok n := by
 by_cases hn : 0 ≤ n
 ·obtain ⟨u, rfl⟩ : ∃ u : Nat, n = u := ⟨n.toNat, by omega⟩
  have hm := Cp (u := u) (by omega)
  have hd := mf u
  have hne := nS u
  rw [dp]
  cases hl : Lib.decDigits u with
  | nil => exact absurd hl hne
  | cons c r =>
   rw [hl] at hm hd
   have hc := hd c (by simp)
   rw [Lib.atoiAll_plain c r (by omega) (by omega), hm]
   unfold Lib.signless
   simp only
   rw [if_neg (by omega)]
 ·have e : Lib.itoa n = 45 :: Lib.decDigits n.natAbs := by unfold Lib.itoa; rw [if_pos (by omega)]
  rw [e, Lib.atoiAll_minus, Cp (by omega)]
  unfold Lib.signed
  simp only
  rw [if_neg (by omega)]
  congr 1
  omega
theorem Cq : ∀ (l : List UInt8) (i n m : Nat), rnD i n l = some m → 0 < n → Lib.decDigits m = Lib.decDigits n ++ l
 | [], i, n, m, h, _ => by simp only [rnD, Option.some.injEq] at h; subst h; simp
 | c :: r, i, n, m, h, hn => by
  rw [rnD] at h
  split at h
  ·cases h
  ·rename_i hc
   rw [Cq r _ _ m h (by omega), mi (10 * n + (c.toNat - 48)), if_neg (by omega), show (10 * n + (c.toNat - 48)) / 10 = n by omega, show 48 + (10 * n + (c.toNat - 48)) % 10 = c.toNat by omega]
   simp
theorem Iu {l : List UInt8} {m : Nat} (h : rnD 0 0 l = some m) (h0 : l ≠ []) (h1 : l.length = 1 ∨ h48 l = true) : Lib.decDigits m = l := by
 cases l with
 | nil => exact absurd rfl h0
 | cons c r =>
  rw [rnD] at h
  split at h
  ·cases h
  ·rename_i hc
   by_cases hz : c = 48
   ·subst hz
    rcases h1 with h1 | h1
    ·have : r = [] := by simpa using h1
     subst this
     simp only [rnD, Option.some.injEq] at h
     subst h
     rw [mi, if_pos (by decide)]
     rfl
    ·simp [h48] at h1
   ·have hd : 0 < 10 * 0 + (c.toNat - 48) := by
     have : c.toNat ≠ 48 := fun z => hz (UInt8.toNat_inj.1 (by simpa using z))
     omega
    rw [Cq r _ _ m h hd, mi, if_pos (by omega), show 48 + (10 * 0 + (c.toNat - 48)) % 10 = c.toNat by omega]
    simp
theorem Iv {l : List UInt8} {m : Nat} (h : rnD 0 0 l = some m) : m < 100000000 := by
 have h1 := ta _ _ _ _ h
 have h2 := Cj _ _ _ _ h (by simp) (by rcases h1 with h | h <;> simp [h] <;> omega)
 rcases h1 with h | h
 ·rw [h] at h2; simp at h2; omega
 ·exact Nat.lt_of_lt_of_le h2 (show 10 ^ (0 + l.length) ≤ 10 ^ 8 from Nat.pow_le_pow_right (by omega) (by omega))
theorem x7 {s : List UInt8} {neg : Bool} (h : (posR s neg).2 = true) : ∃ n : Nat, posR s neg = (if neg then -(n : Int) else n, true) ∧ Lib.decDigits n = s ∧ n < 100000000 ∧ (neg = true → n ≠ 0) := by
 unfold posR at h ⊢
 cases hd : rnD 0 0 s with
 | none => rw [hd] at h; cases h
 | some n =>
  rw [hd] at h
  simp only at h ⊢
  refine ⟨n, by rw [h], ?_, Iv hd, ?_⟩
  ·simp only [Bool.and_eq_true, Bool.or_eq_true, Bool.not_eq_true', decide_eq_true_eq] at h
   refine Iu hd (fun e => ?_) h.1.2
   rw [e] at h
   simp at h
  ·rintro rfl hz
   subst hz
   simp at h
theorem oI {w : List UInt8} (h : (numR w).2 = true) : Lib.itoa (numR w).1 = w ∧ -100000000 ≤ (numR w).1 ∧ (numR w).1 ≤ 100000000 := by
 unfold numR at h ⊢
 split at h
 ·rename_i r
  obtain ⟨n, h1, h2, h3, h4⟩ := x7 h
  rw [h1]
  simp only [if_true]
  have := h4 rfl
  refine ⟨?_, by omega, by omega⟩
  unfold Lib.itoa
  rw [if_pos (by omega), show (-(n : Int)).natAbs = n by omega, h2]
 ·rename_i s hs
  obtain ⟨n, h1, h2, h3, _⟩ := x7 h
  have e : (if false = true then -(n : Int) else (n : Int)) = n := rfl
  rw [h1]
  simp only [Bool.false_eq_true, if_false]
  refine ⟨?_, by omega, by omega⟩
  rw [dp, h2]
theorem kQ {w : List UInt8} (h : (numR w).2 = true) : atoV w = (numR w).1 ∧ atoO w = some (numR w).1 := by
 obtain ⟨h1, h2, h3⟩ := oI h
 have h4 := EC (n := (numR w).1) (by omega) (by omega)
 rw [h1] at h4
 unfold atoV atoO
 rw [h4]
 exact ⟨rfl, rfl⟩
theorem Cr : ∀ (a b : List UInt8) (i n m : Nat), rnD i n a = some m → rnD i n (a ++ b) = rnD (i + a.length) m b
 | [], b, i, n, m, h => by simp only [rnD, Option.some.injEq] at h; subst h; simp
 | c :: a, b, i, n, m, h => by
  rw [rnD] at h
  rw [List.cons_append, rnD]
  split at h
  ·cases h
  ·rename_i hc
   rw [if_neg hc, Cr a b _ _ m h, List.length_cons, show i + 1 + a.length = i + (a.length + 1) by omega]
theorem Iw : ∀ u : Nat, (Lib.decDigits u).length ≤ 8 → rnD 0 0 (Lib.decDigits u) = some u := by
 intro u
 induction u using Nat.strongRecOn with
 | _ u ih =>
  intro hl
  rw [mi] at hl ⊢
  by_cases h : u < 10
  ·rw [if_pos h, List.nil_append, rnD, if_neg (by simp; omega), rnD]
   simp; omega
  ·rw [if_neg h] at hl ⊢
   rw [List.length_append, List.length_singleton] at hl
   rw [Cr _ _ _ _ (u / 10) (ih (u / 10) (by omega) (by omega)), rnD, if_neg (by simp; omega), rnD]
   simp; omega
theorem Kh : ∀ u : Nat, 0 < u → h48 (Lib.decDigits u) = true := by
 intro u
 induction u using Nat.strongRecOn with
 | _ u ih =>
  intro h0
  rw [mi]
  by_cases h : u < 10
  ·rw [if_pos h, List.nil_append]
   simp only [h48, decide_eq_true_eq]
   intro z
   have := congrArg UInt8.toNat z
   simp at this; omega
  ·rw [if_neg h]
   have := ih (u / 10) (by omega) (by omega)
   cases hd : Lib.decDigits (u / 10) with
   | nil => exact absurd hd (nS _)
   | cons c r => rw [hd] at this; exact this
theorem x8 {u : Nat} {neg : Bool} (h : u ≤ 1048576) (hn : neg = true → u ≠ 0) : posR (Lib.decDigits u) neg = (if neg then -(u : Int) else u, true) := by
 have h7 := kM 6 u (by omega)
 unfold posR
 rw [Iw u (by omega)]
 simp only [Prod.mk.injEq, true_and, Bool.and_eq_true, Bool.or_eq_true, Bool.not_eq_true', decide_eq_true_eq]
 refine ⟨⟨by simpa using nS u, ?_⟩, ?_⟩
 ·by_cases h0 : u = 0
  ·left; subst h0; rw [mi, if_pos (by decide)]; rfl
  ·right; exact Kh u (by omega)
 ·cases neg with
  | false => rfl
  | true => simpa using hn rfl
theorem Ix {s : List UInt8} (h : s.head? ≠ some 45) : numR s = posR s false := by
 cases s with
 | nil => rfl
 | cons c r =>
  unfold numR
  split
  ·rename_i h'; cases h'; exact absurd rfl h
  ·rfl
theorem pW {n : Int} (h0 : -1048576 ≤ n) (h1 : n ≤ 1048576) : numR (Lib.itoa n) = (n, true) := by
 by_cases hn : 0 ≤ n
 ·obtain ⟨u, rfl⟩ : ∃ u : Nat, n = u := ⟨n.toNat, by omega⟩
  have hd := mf u
  rw [dp, Ix, x8 (by omega) (fun h => by cases h)]
  ·rfl
  ·intro h
   cases hl : Lib.decDigits u with
   | nil => rw [hl] at h; cases h
   | cons c r =>
    rw [hl] at h hd
    simp only [List.head?_cons, Option.some.injEq] at h
    subst h
    have := (hd 45 (by simp)).1
    revert this; decide
 ·have e : Lib.itoa n = 45 :: Lib.decDigits n.natAbs := by unfold Lib.itoa; rw [if_pos (by omega)]
  rw [e]
  show posR (Lib.decDigits n.natAbs) true = _
  rw [x8 (by omega) (fun _ => by omega)]
  simp only [if_true, Prod.mk.injEq, and_true]
  omega
theorem ng (c : UInt8) : ∀ s : List UInt8, Lib.join (pcs c s) [c] = s ∧ ∀ w ∈ pcs c s, c ∉ w
 | [] => by
  rw [At]
  exact ⟨Lib.join_one _ _, fun w hw => by rw [List.mem_singleton] at hw; subst hw; simp⟩
 | b :: r => by
  obtain ⟨h1, h2⟩ := ng c r
  obtain ⟨y, ys, hr⟩ := lS c r
  by_cases hb : b = c
  ·subst hb
   rw [Au]
   refine ⟨?_, fun w hw => ?_⟩
   ·rw [hr] at h1 ⊢
    rw [Lib.join_cons] at h1 ⊢
    simp only [Lib.joinTail, List.map_cons, List.flatten_cons, List.nil_append, List.singleton_append, List.cons_append, List.append_assoc] at h1 ⊢
    rw [h1]
   ·rcases List.mem_cons.1 hw with rfl | hw
    ·simp
    ·exact h2 w hw
  ·rw [Av hb hr]
   rw [hr] at h1 h2
   refine ⟨?_, fun w hw => ?_⟩
   ·rw [Lib.join_cons] at h1 ⊢
    rw [List.cons_append, h1]
   ·rcases List.mem_cons.1 hw with rfl | hw
    ·have := h2 y (by simp)
     simp only [List.mem_cons, not_or]
     exact ⟨fun e => hb e.symm, this⟩
    ·exact h2 w (List.mem_cons_of_mem _ hw)
theorem ED {w : List UInt8} {e : Ent} (h : entR w = some e) : entW w = some e ∧ lblT e = w := by
 unfold entR at h
 split at h
 ·rename_i a b hab
  split at h
  ·rename_i hn
   cases h
   obtain ⟨j1, j2⟩ := ng 61 w
   rw [hab] at j1 j2
   have hw : w = a ++ 61 :: b := by
    rw [← j1, Lib.join_cons]; simp [Lib.joinTail]
   have ha := j2 a (by simp)
   refine ⟨?_, ?_⟩
   ·unfold entW
    rw [hw, vV ha]
    simp only [if_true]
    rw [(kQ hn).2]; rfl
   ·unfold lblT
    simp only
    rw [(oI hn).1, hw]
  ·cases h
 ·cases h
theorem EE {e : Ent} (h : rigC e.1 = true ∧ 0 ≤ e.2) (h4 : e.2 ≤ 1048576) : entR (lblT e) = some e := by
 have h61 : (61 : UInt8) ∉ e.1 := fun hm => by have := (jB h.1 61 hm).2; revert this; decide
 have h62 : (61 : UInt8) ∉ Lib.itoa e.2 := fun hm => by have := (kO h.2 61 hm).2; revert this; decide
 have hp : pcs 61 (lblT e) = [e.1, Lib.itoa e.2] := by
  unfold pcs lblT
  rw [kX h61, mX h62]
 unfold entR
 rw [hp]
 simp only
 rw [pW (by have := h.2; omega) h4]
 rfl
theorem x9 : ∀ (ws : List (List UInt8)) (a q : List Ent), labR a ws = some q → ∃ l, q = a ++ l ∧ ws = l.map lblT ∧ ∀ e ∈ l, entW (lblT e) = some e
 | [], a, q, h => by simp only [labR, Option.some.injEq] at h; subst h; exact ⟨[], by simp, rfl, fun e he => by cases he⟩
 | w :: ws, a, q, h => by
  simp only [labR] at h
  cases hb : entR w with
  | none => rw [hb] at h; cases h
  | some e =>
   rw [hb] at h
   obtain ⟨l, h1, h2, h3⟩ := x9 ws _ q h
   obtain ⟨k1, k2⟩ := ED hb
   refine ⟨e :: l, by rw [h1]; simp, by rw [List.map_cons, k2, h2], fun x hx => ?_⟩
   rcases List.mem_cons.1 hx with rfl | hx
   ·rw [k2]; exact k1
   ·exact h3 x hx
theorem ya : ∀ (l a : List Ent), (∀ e ∈ l, entR (lblT e) = some e) → labR a (l.map lblT) = some (a ++ l)
 | [], a, _ => by simp [labR]
 | e :: l, a, h => by
  rw [List.map_cons, labR, h e (by simp)]
  simp only
  rw [ya l _ fun x hx => h x (List.mem_cons_of_mem _ hx)]
  simp
theorem yb {l : List Ent} (h : rigL l = true) : ∀ e ∈ l, (rigC e.1 = true ∧ 0 ≤ e.2) ∧ e.2 ≤ 1048576 := fun e he => by
 refine ⟨kP h e he, ?_⟩
 simp only [rigL, Bool.and_eq_true, decide_eq_true_eq] at h
 have := mU l none h.2 e he
 omega
theorem Iy {l : List Ent} (h : rigL l = true) (h0 : l ≠ []) : pcs 44 (labT l) = l.map lblT := by
 unfold labT
 rw [if_neg h0]
 refine nc _ (by simpa using h0) fun w hw hm => ?_
 obtain ⟨e, he, rfl⟩ := List.mem_map.1 hw
 have := s5 (kP h e he) 44 hm
 revert this; decide
theorem yc (s : List UInt8) : Ck s = labP s := by
 unfold Ck labP
 by_cases h0 : s = [45]
 ·rw [if_pos h0, if_pos h0]
 ·rw [if_neg h0, if_neg h0]
  rw [show (au 44 s).map (·.1) = pcs 44 s from rfl]
  cases hR : labR [] (pcs 44 s) with
  | some q =>
   obtain ⟨l, h1, h2, h3⟩ := x9 _ _ _ hR
   rw [List.nil_append] at h1
   subst h1
   have hW := s6 q [] h3
   rw [← h2, List.nil_append] at hW
   rw [hW]
   simp only
   cases hr : rigL q with
   | false => rw [if_neg (by simp), if_neg (by simp)]
   | true =>
    have hq : q ≠ [] := by
     rintro rfl
     obtain ⟨x, xs, hp⟩ := lS 44 s
     rw [hp] at h2; cases h2
    have ht : labT q = s := by
     unfold labT
     rw [if_neg hq, ← h2, (ng 44 s).1]
    rw [if_pos rfl, if_pos ⟨rfl, ht⟩]
  | none =>
   cases hW : labW [] (pcs 44 s) with
   | none => rfl
   | some q =>
    simp only
    by_cases hc : rigL q = true ∧ labT q = s
    ·exfalso
     have hq : q ≠ [] := by
      rintro rfl
      exact h0 hc.2.symm
     have h1 := Iy hc.1 hq
     rw [hc.2] at h1
     rw [h1, ya q [] fun e he => EE (yb hc.1 e he).1 (yb hc.1 e he).2] at hR
     cases hR
    ·rw [if_neg hc]
theorem uR {w : List UInt8} (h : nf w = true) : wayT (frmP w) = w := by
 unfold nf at h
 unfold wayT frmP
 by_cases h0 : w = [46]
 ·rw [if_pos h0, if_pos rfl, h0]
 ·rw [if_neg h0] at h ⊢
  simp only [Bool.and_eq_true, decide_eq_true_eq] at h
  rw [if_neg h.2]
  have h1 := h.1
  have h2 := h.2
  unfold prsP at h1 h2 ⊢
  by_cases h3 : w = []
  ·rw [if_pos h3] at h2; exact absurd rfl h2
  ·rw [if_neg h3] at h1 h2 ⊢
   cases hp : pthS [] ((au 46 w).map (·.1)) with
   | none => rw [hp] at h1; cases h1
   | some q =>
    rw [hp] at h1 h2
    simp only at h1 h2 ⊢
    by_cases hc : rigP q = true ∧ dotT q = w
    ·rw [if_pos hc]; exact hc.2
    ·rw [if_neg hc] at h1; cases h1
theorem uS {l : List Int} (h : rigP l = true) : nf (wayT l) = true := by
 unfold nf wayT
 by_cases h0 : l = []
 ·rw [if_pos h0, if_pos rfl]
 ·rw [if_neg h0]
  have h1 := BA h
  split
  ·rfl
  ·rw [h1]; simp [h0]
theorem EF {w : List UInt8} (h : (ownP w).2 = true) : ownT (ownP w).1 = w := by
 unfold ownP at h ⊢
 by_cases h0 : w = [45]
 ·rw [if_pos h0, h0]; rfl
 ·rw [if_neg h0] at h ⊢
  by_cases h1 : rigO (pcs 44 w) = true
  ·rw [if_pos h1]
   obtain ⟨x, xs, hp⟩ := lS 44 w
   unfold ownT
   rw [if_neg (by simp only; rw [hp]; simp)]
   exact (ng 44 w).1
  ·rw [if_neg h1] at h; cases h
theorem yd {w : List UInt8} (h : (labP w).2 = true) : labT (labP w).1 = w := by
 unfold labP at h ⊢
 by_cases h0 : w = [45]
 ·rw [if_pos h0, h0]; rfl
 ·rw [if_neg h0] at h ⊢
  cases hW : labW [] ((au 44 w).map (·.1)) with
  | none => rw [hW] at h; cases h
  | some q =>
   rw [hW] at h
   simp only at h ⊢
   by_cases hc : rigL q = true ∧ labT q = w
   ·rw [if_pos hc]; exact hc.2
   ·rw [if_neg hc] at h; cases h
theorem ye {c : UInt8} (h : 0 ≤ nib c) : hexD (nib c).toNat = c := by
 have key : ∀ n : Nat, n < 256 → 0 ≤ nib (UInt8.ofNat n) → hexD (nib (UInt8.ofNat n)).toNat = UInt8.ofNat n := by decide +kernel
 have := key c.toNat c.toNat_lt
 rw [UInt8.ofNat_toNat] at this
 exact this h
theorem Iz : ∀ (n : Nat) (l acc q : List UInt8) (hf : Nat), l.length ≤ n → blS acc hf false l = some (q, false) → jb acc l = some q ∧ ∃ t, q = acc ++ t ∧ l = hexT t := by
 intro n
 induction n using Nat.strongRecOn with
 | _ n ih =>
  intro l acc q hf hn h
  match l, hn, h with
  | [], _, h =>
   simp only [blS, Option.some.injEq, Prod.mk.injEq, and_true] at h
   subst h
   exact ⟨rfl, [], by simp, rfl⟩
  | [a], _, h =>
   simp only [blS] at h
   split at h
   ·cases h
   ·simp at h
  | a :: b :: r, hn, h =>
   simp only [blS] at h
   split at h
   ·cases h
   ·rename_i ha
    simp only [Bool.not_false, if_true, Bool.not_true, Bool.false_eq_true, if_false] at h
    split at h
    ·cases h
    ·rename_i hb
     simp only [List.length_cons] at hn
     obtain ⟨h1, t, h2, h3⟩ := ih r.length (by omega) r _ q _ (Nat.le_refl _) h
     refine ⟨by rw [jb, if_neg (by omega)]; exact h1, UInt8.ofNat (16 * (nib a).toNat + (nib b).toNat) :: t, by rw [h2]; simp, ?_⟩
     have l1 := uK a
     have l2 := uK b
     have e : (UInt8.ofNat (16 * (nib a).toNat + (nib b).toNat)).toNat = 16 * (nib a).toNat + (nib b).toNat := by simp <;> omega
     rw [hexT, e, show (16 * (nib a).toNat + (nib b).toNat) / 16 = (nib a).toNat by omega, show (16 * (nib a).toNat + (nib b).toNat) % 16 = (nib b).toNat by omega, ye (by omega), ye (by omega), h3]
theorem yf : ∀ (t acc : List UInt8) (hf : Nat), blS acc hf false (hexT t) = some (acc ++ t, false)
 | [], acc, hf => by simp [hexT, blS]
 | x :: t, acc, hf => by
  have hx := x.toNat_lt
  simp only [hexT, blS]
  rw [xX (by omega), xX (by omega), if_neg (by omega)]
  simp only [Bool.not_false, if_true, Bool.not_true, Bool.false_eq_true, if_false]
  rw [if_neg (by omega)]
  simp only [Int.toNat_natCast]
  rw [show 16 * (x.toNat / 16) + x.toNat % 16 = x.toNat by omega, UInt8.ofNat_toNat, yf t]
  simp
theorem uT {w : List UInt8} (h : (mj w).2 = true) : txtW w = (mj w).1 ∧ bytW (txtW w) = w := by
 unfold mj at h ⊢
 by_cases h0 : w = [45]
 ·rw [if_pos h0, h0]; exact ⟨rfl, rfl⟩
 ·rw [if_neg h0] at h ⊢
  cases hb : blS [] 0 false w with
  | none => rw [hb] at h; cases h
  | some z =>
   obtain ⟨q, has⟩ := z
   rw [hb] at h
   simp only [Bool.and_eq_true, Bool.not_eq_true', decide_eq_true_eq] at h ⊢
   obtain ⟨rfl, hq⟩ := h
   obtain ⟨h1, t, h2, h3⟩ := Iz _ w [] q 0 (Nat.le_refl _) hb
   rw [List.nil_append] at h2
   subst h2
   have ht : txtW w = q := by unfold txtW; rw [h1]; rfl
   rw [ht]
   refine ⟨rfl, ?_⟩
   unfold bytW
   rw [if_neg hq, h3]
theorem Cs (t : List UInt8) : mj (bytW t) = (t, true) := by
 unfold mj bytW
 by_cases h0 : t = []
 ·rw [if_pos h0, if_pos rfl, h0]
 ·rw [if_neg h0]
  have hne : hexT t ≠ [45] := fun e => by
   have := s4 t 45 (by rw [e]; simp)
   revert this; decide
  rw [if_neg hne, yf]
  simp [h0]
def okR (p : UInt8) (w : List UInt8) : Bool :=
 if p = 97 then nf w else if p = 115 then nf w else if p = 108 then (labP w).2 else if p = 101 then (labP w).2 else if p = 110 then (numR w).2 else if p = 109 then (numR w).2 else
 if p = 111 then (ownP w).2 else if p = 116 then (mj w).2 else if p = 99 then rigC w else (w == [119] || w == [114])
def Ltr (p : UInt8) : Prop := p = 97 ∨ p = 115 ∨ p = 108 ∨ p = 101 ∨ p = 110 ∨ p = 109 ∨ p = 111 ∨ p = 116 ∨ p = 99 ∨ p = 119
theorem EG {o : Cal} {p : UInt8} {w : List UInt8} (hp : Ltr p) (h : okR p w = true) : wrd (setP o p w) p = w := by
 rcases hp with rfl | rfl | rfl | rfl | rfl | rfl | rfl | rfl | rfl | rfl
 ·exact uR h
 ·exact uR h
 ·exact yd h
 ·exact yd h
 ·show Lib.itoa (atoV w) = w
  rw [(kQ h).1]; exact (oI h).1
 ·show Lib.itoa (atoV w) = w
  rw [(kQ h).1]; exact (oI h).1
 ·exact EF h
 ·exact (uT h).2
 ·rfl
 ·show (if (w == [119]) = true then [119] else [114]) = w
  have h' : (w == [119] || w == [114]) = true := h
  simp only [Bool.or_eq_true, beq_iff_eq] at h'
  rcases h' with rfl | rfl <;> rfl
theorem Ct {o : Cal} {p q : UInt8} {w : List UInt8} (hp : Ltr p) (hq : Ltr q) (hne : p ≠ q) : wrd (setP o p w) q = wrd o q := by
 rcases hp with rfl | rfl | rfl | rfl | rfl | rfl | rfl | rfl | rfl | rfl <;>
 rcases hq with rfl | rfl | rfl | rfl | rfl | rfl | rfl | rfl | rfl | rfl <;>
 first | rfl | exact absurd rfl hne
theorem yg {q : UInt8} (hq : Ltr q) : ∀ (ps : List UInt8) (ws : List (List UInt8)) (o : Cal), (∀ p ∈ ps, Ltr p) → q ∉ ps → wrd (prC o ps ws) q = wrd o q
 | [], _, o, _, _ => by simp [prC]
 | _ :: _, [], o, _, _ => by simp [prC]
 | p :: ps, w :: ws, o, hl, hn => by
  simp only [List.mem_cons, not_or] at hn
  rw [prC, yg hq ps ws _ (fun x hx => hl x (List.mem_cons_of_mem _ hx)) hn.2, Ct (hl p (by simp)) hq (fun e => hn.1 e.symm)]
def nG : List UInt8 → List (List UInt8) → Bool
 | p :: ps, w :: ws => okR p w && nG ps ws
 | _, _ => true
theorem Cu : ∀ (ps : List UInt8) (ws : List (List UInt8)) (o : Cal), (∀ p ∈ ps, Ltr p) → ps.Nodup → ps.length = ws.length → nG ps ws = true → ps.map (wrd (prC o ps ws)) = ws
 | [], [], o, _, _, _, _ => rfl
 | [], _ :: _, o, _, _, h, _ => by cases h
 | _ :: _, [], o, _, _, h, _ => by cases h
 | p :: ps, w :: ws, o, hl, hd, hn, hk => by
  simp only [nG, Bool.and_eq_true] at hk
  obtain ⟨hd1, hd2⟩ := List.nodup_cons.1 hd
  have hl' : ∀ x ∈ ps, Ltr x := fun x hx => hl x (List.mem_cons_of_mem _ hx)
  have hp := hl p (by simp)
  rw [prC, List.map_cons, yg hp ps ws _ hl' hd1, EG hp hk.1, Cu ps ws _ hl' hd2 (by simpa using hn) hk.2]
theorem EH (op : Int) : (fS op).Nodup := by
 by_cases hop : 0 ≤ op ∧ op ≤ 20
 ·rcases op21 hop with rfl | rfl | h
  ·decide
  ·decide
  rcases dS h with rfl | rfl | rfl | rfl | rfl | rfl | rfl | rfl | rfl | rfl | rfl | rfl | rfl | rfl | rfl | rfl | rfl | rfl | rfl <;> decide
 ·unfold fS; rw [if_neg hop]; exact List.nodup_nil
theorem IA {c : Cal} (hr : eN c = true) {p : UInt8} (hp : p ∈ fS c.op) : okR p (wrd c p) = true := by
 have r := rf hr
 have hcat : p = 99 → rigC c.cat = true := fun e => by
  subst e
  rw [Kg r.op] at hp
  obtain ⟨k, hk, he⟩ := List.mem_map.1 hp
  have hk7 : k = 7 := by
   rcases nK ((pU c.op).2 k hk) with rfl | rfl | rfl | rfl | rfl | rfl | rfl | rfl | rfl | rfl | rfl <;> first | rfl | (exfalso; revert he; decide)
  subst hk7
  have := (kY hr).2.2 7 hk
  simpa only [rgP, Int.reduceEq, if_true, if_false, reduceIte] using this
 rcases (nV c.op).2 p hp with rfl | rfl | rfl | rfl | rfl | rfl | rfl | rfl | rfl | rfl
 ·exact uS r.at_
 ·exact uS r.seg
 ·show (labP (labT c.lab)).2 = true
  rw [Ch r.lab]
 ·show (labP (labT c.ent)).2 = true
  rw [Ch r.ent]
 ·show (numR (Lib.itoa c.n)).2 = true
  rw [pW r.n.1 r.n.2]
 ·show (numR (Lib.itoa c.m)).2 = true
  rw [pW (by have := r.m; omega) r.m.2]
 ·show (ownP (ownT c.own)).2 = true
  rw [Ii r.own]
 ·show (mj (bytW c.text)).2 = true
  rw [Cs]
 ·exact hcat rfl
 ·show ((if c.write = true then [119] else [114]) == [119] || (if c.write = true then [119] else [114]) == ([114] : List UInt8)) = true
  cases c.write <;> rfl
theorem uU {f : UInt8 → List UInt8} : ∀ (ps : List UInt8), (∀ p ∈ ps, okR p (f p) = true) → nG ps (ps.map f) = true
 | [], _ => rfl
 | p :: ps, h => by
  rw [List.map_cons, nG, h p (by simp), Bool.true_and]
  exact uU ps fun x hx => h x (List.mem_cons_of_mem _ hx)
def refT (s : List UInt8) : Cal × Int :=
 if opW s < 0 then (eA 0, 30) else if (pcs 32 s).length = (fS (opW s)).length + 1 ∧ nG (fS (opW s)) (pcs 32 s).tail = true ∧ eN (mkC s) = true then (mkC s, 0) else (eA 0, 10)
def IB : Except Int Cal → Cal × Int
 | .ok c => (c, 0)
 | .error e => (eA 0, e)
theorem Fz : ∀ (ps : List UInt8) (ws : List (List UInt8)) (o : Cal), (prC o ps ws).op = o.op
 | [], _, o => by simp [prC]
 | _ :: _, [], o => by simp [prC]
 | p :: ps, w :: ws, o => by
  rw [prC, Fz ps ws]
  unfold setP
  repeat' split
  all_goals rfl
theorem Ki : ∀ (l : List (List UInt8)) (i : Nat) (w : List UInt8), 0 ≤ ixF i l w → l[(ixF i l w).toNat - i]? = some w ∧ (i : Int) ≤ ixF i l w
 | [], i, w, h => by simp [ixF] at h
 | x :: r, i, w, h => by
  rw [ixF] at h ⊢
  split
  ·rename_i e; subst e; simp
  ·rename_i e
   rw [if_neg e] at h
   obtain ⟨h1, h2⟩ := Ki r (i + 1) w h
   refine ⟨?_, by omega⟩
   rw [show (ixF (i + 1) r w).toNat - i = ((ixF (i + 1) r w).toNat - (i + 1)) + 1 by omega, List.getElem?_cons_succ]
   exact h1
theorem Kj {s : List UInt8} (h : 0 ≤ opW s) : (pcs 32 s).head? = some (nmT (opW s)) := by
 obtain ⟨x, xs, hp⟩ := lS 32 s
 have ho : opW s = ixF 0 nmL x := by unfold opW; rw [hp]; rfl
 have h1 := (Ki nmL 0 x (by omega)).1
 rw [← ho, Nat.sub_zero] at h1
 rcases wc s with h2 | h2
 ·omega
 ·rw [hp]
  unfold nmT
  rw [if_pos h2]
  simp [h1]
theorem IC (s : List UInt8) : refT s = IB (parT s) := by
 unfold refT parT
 by_cases h0 : opW s < 0
 ·rw [if_pos h0, if_pos h0]; rfl
 ·rw [if_neg h0, if_neg h0]
  have hop : (mkC s).op = opW s := by unfold mkC; rw [Fz]; rfl
  by_cases ht : cTxt (mkC s) = s
  ·rw [if_pos ht]
   have hp : parT s = .ok (mkC s) := by unfold parT; rw [if_neg h0, if_pos ht]
   obtain ⟨_, hr⟩ := Es hp
   have hw := Im hr
   rw [ht] at hw
   unfold lL at hw
   rw [hop] at hw
   rw [if_pos]
   ·rfl
   ·refine ⟨by rw [hw]; simp, ?_, hr⟩
    rw [hw, List.tail_cons]
    refine uU _ fun p hp => IA hr (by rw [hop]; exact hp)
  ·rw [if_neg ht, if_neg]
   ·rfl
   ·rintro ⟨h1, h2, h3⟩
    apply ht
    have hh := Kj (s := s) (by omega)
    obtain ⟨x, xs, hp⟩ := lS 32 s
    rw [hp] at h1 h2 hh
    simp only [List.head?_cons, Option.some.injEq] at hh
    simp only [List.tail_cons, List.length_cons] at h1 h2
    have hm : mkC s = prC (eA (opW s)) (fS (opW s)) xs := by unfold mkC; rw [hp]; rfl
    have hwd := Cu (fS (opW s)) xs (eA (opW s)) (nV _).2 (EH _) (by omega) h2
    unfold cTxt
    rw [if_pos h3]
    unfold lL
    rw [hop, hm, hwd, ← hh, ← hp]
    exact (ng 32 s).1
end Go.Proofs.YtibchilpaaiecaaGreatDoor.L
