/- What is told is parsed again: plain. -/
import Derived.Test.YtibchilpaaiecaaGreatDoorL135
import Derived.Test.YtibchilpaaiecaaGreatDoorL40
import Derived.Test.YtibchilpaaiecaaGreatDoorL43
set_option linter.all false
set_option maxRecDepth 100000
set_option maxHeartbeats 32000000
namespace Go.Proofs.YtibchilpaaiecaaGreatDoor.L
open Go.Proofs.YtibchilpaaiecaaGreatDoor.M Go.Proofs.YtibchilpaaiecaaGreatDoor.F Go.Proofs
theorem oH {c s : UInt8} : ∀ {l : List (List UInt8)}, c ∈ Lib.join l [s] → c = s ∨ ∃ w ∈ l, c ∈ w
 | [], h => by simp [Lib.join_nil] at h
 | x :: r, h => by
  rw [Lib.join_cons, List.mem_append] at h
  rcases h with h | h
  ·exact .inr ⟨x, by simp, h⟩
  ·unfold Lib.joinTail at h
   rw [List.mem_flatten] at h
   obtain ⟨y, hy, hc⟩ := h
   obtain ⟨w, hw, rfl⟩ := List.mem_map.1 hy
   rcases List.mem_append.1 hc with hc | hc
   ·rw [List.mem_singleton] at hc; exact .inl hc
   ·exact .inr ⟨w, List.mem_cons_of_mem _ hw, hc⟩
theorem En {n : Int} : ∀ c ∈ Lib.itoa n, c.toNat = 45 ∨ (48 ≤ c.toNat ∧ c.toNat ≤ 57) := by
 intro c hc
 unfold Lib.itoa at hc
 split at hc
 ·rcases List.mem_cons.1 hc with rfl | hc
  ·exact .inl rfl
  ·exact .inr (mf _ c hc)
 ·exact .inr (mf _ c hc)
theorem kO {n : Int} (h : 0 ≤ n) : ∀ c ∈ Lib.itoa n, 48 ≤ c.toNat ∧ c.toNat ≤ 57 := by
 intro c hc
 unfold Lib.itoa at hc
 rw [if_neg (by omega)] at hc
 exact mf _ c hc
theorem jB {s : List UInt8} (h : rigC s = true) : ∀ c ∈ s, 46 ≤ c.toNat ∧ c.toNat ≤ 57 := by
 obtain ⟨h1, h2⟩ := oF h
 obtain ⟨hn, _, hk⟩ := mg.1 h1
 intro c hc
 rw [← h2] at hc
 unfold txtC at hc
 rw [iZ] at hc
 rcases List.mem_append.1 hc with hc | hc
 ·rcases oH hc with rfl | ⟨w, hw, hc⟩
  ·decide
  ·obtain ⟨k, hk', rfl⟩ := List.mem_map.1 hw
   have := kO (hk k hk').1 c hc
   omega
 ·rcases List.mem_cons.1 hc with rfl | hc
  ·decide
  ·have := kO hn.1 c hc
   omega
theorem Eo {l : List Int} (h : ∀ k ∈ l, 0 ≤ k) : ∀ c ∈ dotT l, c.toNat = 46 ∨ (48 ≤ c.toNat ∧ c.toNat ≤ 57) := by
 intro c hc
 rcases oH hc with rfl | ⟨w, hw, hc⟩
 ·exact .inl rfl
 ·obtain ⟨k, hk', rfl⟩ := List.mem_map.1 hw
  exact .inr (kO (h k hk') c hc)
theorem xW {n : Nat} (h : n < 16) : 48 ≤ (hexD n).toNat := by
 have : n = 0 ∨ n = 1 ∨ n = 2 ∨ n = 3 ∨ n = 4 ∨ n = 5 ∨ n = 6 ∨ n = 7 ∨ n = 8 ∨ n = 9 ∨ n = 10 ∨ n = 11 ∨ n = 12 ∨ n = 13 ∨ n = 14 ∨ n = 15 := by omega
 rcases this with rfl | rfl | rfl | rfl | rfl | rfl | rfl | rfl | rfl | rfl | rfl | rfl | rfl | rfl | rfl | rfl <;> decide
theorem s4 : ∀ (t : List UInt8), ∀ c ∈ hexT t, 48 ≤ c.toNat
 | [], c, h => by simp [hexT] at h
 | x :: t, c, h => by
  have hx := x.toNat_lt
  simp only [hexT, List.mem_cons] at h
  rcases h with rfl | rfl | h
  ·exact xW (by omega)
  ·exact xW (by omega)
  ·exact s4 t c h
theorem s5 {e : Ent} (h : rigC e.1 = true ∧ 0 ≤ e.2) : ∀ c ∈ lblT e, 46 ≤ c.toNat := by
 intro c hc
 unfold lblT at hc
 rcases List.mem_append.1 hc with hc | hc
 ·exact (jB h.1 c hc).1
 ·rcases List.mem_cons.1 hc with rfl | hc
  ·decide
  ·have := kO h.2 c hc; omega
theorem uO : ∀ (l : List Ent) (p : Option (List UInt8)), rigE p l = true → ∀ e ∈ l, rigC e.1 = true ∧ 0 ≤ e.2
 | [], p, _, e, he => by cases he
 | a :: l, p, h, e, he => by
  have h4 := mU (a :: l) p h e he
  simp only [rigE, Bool.and_eq_true] at h
  rcases List.mem_cons.1 he with rfl | he
  ·exact ⟨by first | exact h.1 | exact h.1.1 | exact h.1.1.1 | exact h.1.1.1.1 | simp_all, h4.2.1⟩
  ·exact uO l (some a.1) (by first | exact h.2 | exact h.2.2 | exact h.2.2.2 | simp_all) e he
theorem kP {l : List Ent} (h : rigL l = true) : ∀ e ∈ l, rigC e.1 = true ∧ 0 ≤ e.2 := by
 simp only [rigL, Bool.and_eq_true, decide_eq_true_eq] at h
 exact uO l none h.2
theorem nc {c : UInt8} : ∀ (ws : List (List UInt8)), ws ≠ [] → (∀ w ∈ ws, c ∉ w) → pcs c (Lib.join ws [c]) = ws
 | [], h, _ => absurd rfl h
 | [w], _, h => by rw [Lib.join_one]; exact mX (h w (by simp))
 | a :: b :: r, _, h => by
  have ih := nc (b :: r) (by simp) fun w hw => h w (List.mem_cons_of_mem _ hw)
  have e : Lib.join (a :: b :: r) [c] = a ++ c :: Lib.join (b :: r) [c] := by
   rw [Lib.join_cons, Lib.join_cons]; simp [Lib.joinTail]
  rw [e]
  unfold pcs at ih ⊢
  rw [kX (h a (by simp)), ih]
theorem Ig {u : Nat} (h : u ≤ 1048576) : Lib.parseMag (Lib.decDigits u) = .ok u := by
 have hp := pQ u [] (by omega)
 have hn := nS u
 rw [List.append_nil] at hp
 cases hl : Lib.decDigits u with
 | nil => exact absurd hl hn
 | cons c r =>
  rw [hl] at hp
  unfold Lib.parseMag
  rw [if_neg (by simp), hp]
  rfl
theorem Ep {n : Int} (h0 : -1048576 ≤ n) (h1 : n ≤ 1048576) : Lib.atoiAll (Lib.itoa n) = .ok n := by
 by_cases hn : 0 ≤ n
 ·exact uw hn h1
 ·have e : Lib.itoa n = 45 :: Lib.decDigits n.natAbs := by unfold Lib.itoa; rw [if_pos (by omega)]
  rw [e, Lib.atoiAll_minus, Ig (by omega)]
  unfold Lib.signed
  simp only
  rw [if_neg (by omega)]
  congr 1
  omega
theorem Cg {n : Int} (h0 : -1048576 ≤ n) (h1 : n ≤ 1048576) : atoO (Lib.itoa n) = some n := by unfold atoO; rw [Ep h0 h1]
theorem Er {e : Ent} (h : rigC e.1 = true ∧ 0 ≤ e.2) (h4 : e.2 ≤ 1048576) : entW (lblT e) = some e := by
 unfold entW lblT
 rw [vV fun hm => by have := (jB h.1 61 hm).2; revert this; decide]
 simp only [if_true]
 rw [Cg (by have := h.2; omega) h4]
 rfl
theorem s6 : ∀ (l a : List Ent), (∀ e ∈ l, entW (lblT e) = some e) → labW a (l.map lblT) = some (a ++ l)
 | [], a, _ => by simp [labW]
 | e :: l, a, h => by
  rw [List.map_cons, labW, h e (by simp)]
  simp only
  rw [s6 l _ fun x hx => h x (List.mem_cons_of_mem _ hx)]
  simp
theorem Ih {l : List Ent} (h : l ≠ []) : labT l ≠ [45] := by
 unfold labT
 rw [if_neg h]
 cases l with
 | nil => exact absurd rfl h
 | cons e r =>
  intro hz
  have : (61 : UInt8) ∈ Lib.join ((e :: r).map lblT) [44] := by
   rw [List.map_cons, Lib.join_cons]
   simp [lblT]
  rw [hz] at this
  simp at this
theorem Ch {l : List Ent} (h : rigL l = true) : labP (labT l) = (l, true) := by
 by_cases h0 : l = []
 ·subst h0; rfl
 ·unfold labP
  rw [if_neg (Ih h0)]
  have hj : (au 44 (labT l)).map (·.1) = l.map lblT := by
   have : pcs 44 (labT l) = l.map lblT := by
    unfold labT
    rw [if_neg h0]
    refine nc _ (by simpa using h0) fun w hw hm => ?_
    obtain ⟨e, he, rfl⟩ := List.mem_map.1 hw
    have := s5 (kP h e he) 44 hm
    revert this; decide
   exact this
  rw [hj, s6 l [] fun e he => Er (kP h e he) (by
   have h' := h
   simp only [rigL, Bool.and_eq_true, decide_eq_true_eq] at h'
   have := mU l none h'.2 e he
   omega)]
  simp only [List.nil_append]
  rw [if_pos ⟨h, trivial⟩]
theorem Ii {l : List (List UInt8)} (h : rigO l = true) : ownP (ownT l) = (l, true) := by
 unfold ownP ownT
 by_cases h0 : l = []
 ·rw [if_pos h0, if_pos rfl, h0]
 ·rw [if_neg h0]
  obtain ⟨h8, hs⟩ := jA h
  have hp : pcs 44 (Lib.join l [44]) = l := nc l h0 fun w hw hm => by
   have := (jB (hs w hw).1 44 hm).1
   revert this; decide
  by_cases h1 : Lib.join l [44] = [45]
  ·exfalso
   rw [h1] at hp
   have : pcs 44 [45] = [[45]] := by decide
   rw [this] at hp
   have h45 := hs [45] (by rw [← hp]; simp)
   have := (jB h45.1 45 (by simp)).1
   revert this; decide
  ·rw [if_neg h1, hp, if_pos h]
theorem xX {n : Nat} (h : n < 16) : nib (hexD n) = n := by
 have : n = 0 ∨ n = 1 ∨ n = 2 ∨ n = 3 ∨ n = 4 ∨ n = 5 ∨ n = 6 ∨ n = 7 ∨ n = 8 ∨ n = 9 ∨ n = 10 ∨ n = 11 ∨ n = 12 ∨ n = 13 ∨ n = 14 ∨ n = 15 := by omega
 rcases this with rfl | rfl | rfl | rfl | rfl | rfl | rfl | rfl | rfl | rfl | rfl | rfl | rfl | rfl | rfl | rfl <;> rfl
theorem Ij {c : Cal} (hr : eN c = true) (hcat : c.cat = [] ∨ rigC c.cat = true) (p : UInt8) : (32 : UInt8) ∉ wrd c p := by
 have r := rf hr
 have key : ∀ {w : List UInt8}, (∀ c ∈ w, 33 ≤ c.toNat) → (32 : UInt8) ∉ w := fun h hm => by have := h 32 hm; revert this; decide
 refine key fun x hx => ?_
 have hway : ∀ {l : List Int}, rigP l = true → x ∈ wayT l → 33 ≤ x.toNat := fun h hm => by
  unfold wayT at hm
  split at hm
  ·rw [List.mem_singleton] at hm; subst hm; decide
  ·have := Eo (fun k hk => ((fG h).2 k hk).1) x hm; omega
 have hlab : ∀ {l : List Ent}, rigL l = true → x ∈ labT l → 33 ≤ x.toNat := fun h hm => by
  unfold labT at hm
  split at hm
  ·rw [List.mem_singleton] at hm; subst hm; decide
  ·rcases oH hm with rfl | ⟨w, hw, hc⟩
   ·decide
   ·obtain ⟨e, he, rfl⟩ := List.mem_map.1 hw
    have := s5 (kP h e he) x hc; omega
 have hito : ∀ {n : Int}, x ∈ Lib.itoa n → 33 ≤ x.toNat := fun hm => by have := En x hm; omega
 unfold wrd at hx
 repeat' split at hx
 ·exact hway r.at_ hx
 ·exact hway r.seg hx
 ·exact hlab r.lab hx
 ·exact hlab r.ent hx
 ·exact hito hx
 ·exact hito hx
 ·unfold ownT at hx
  split at hx
  ·rw [List.mem_singleton] at hx; subst hx; decide
  ·rcases oH hx with rfl | ⟨w, hw, hc⟩
   ·decide
   ·have := jB ((jA r.own).2 w hw).1 x hc; omega
 ·unfold bytW at hx
  split at hx
  ·rw [List.mem_singleton] at hx; subst hx; decide
  ·have := s4 _ x hx; omega
 ·rcases hcat with h | h
  ·rw [h] at hx; cases hx
  ·have := jB h x hx; omega
 ·rw [List.mem_singleton] at hx; subst hx; decide
 ·rw [List.mem_singleton] at hx; subst hx; decide
theorem Ik (op : Int) : (32 : UInt8) ∉ nmT op := by
 by_cases hop : 0 ≤ op ∧ op ≤ 20
 ·rcases op21 hop with rfl | rfl | h
  ·decide
  ·decide
  rcases dS h with rfl | rfl | rfl | rfl | rfl | rfl | rfl | rfl | rfl | rfl | rfl | rfl | rfl | rfl | rfl | rfl | rfl | rfl | rfl <;> decide
 ·unfold nmT; rw [if_neg hop]; simp
theorem Il {c : Cal} (hr : eN c = true) : c.cat = [] ∨ rigC c.cat = true := by
 obtain ⟨_, hpl, hg⟩ := kY hr
 by_cases z : (7 : Int) ∈ pL c.op
 ·right
  have := hg 7 z
  simpa only [rgP, Int.reduceEq, if_true, if_false, reduceIte] using this
 ·left
  have hpe := BP c
  rw [hpl] at hpe
  have := congrArg Cal.cat hpe
  simp only at this
  rw [if_neg z] at this
  exact this
theorem Im {c : Cal} (hr : eN c = true) : pcs 32 (cTxt c) = lL c := by
 unfold cTxt
 rw [if_pos hr]
 refine nc _ (by simp [lL]) fun w hw => ?_
 rcases List.mem_cons.1 hw with rfl | hw
 ·exact Ik _
 ·obtain ⟨p, _, rfl⟩ := List.mem_map.1 hw
  exact Ij hr (Il hr) p
def lt9 (p : Int) : UInt8 := if p = 0 then 97 else if p = 1 then 108 else if p = 2 then 110 else if p = 3 then 109 else if p = 4 then 101 else if p = 5 then 111 else if p = 6 then 116 else if p = 7 then 99 else if p = 8 then 115 else if p = 9 then 119 else 110
theorem Kg {op : Int} (h : 0 ≤ op ∧ op ≤ 20) : fS op = (pL op).map lt9 := by
 rcases op21 h with rfl | rfl | h
 ·rfl
 ·rfl
 rcases dS h with rfl | rfl | rfl | rfl | rfl | rfl | rfl | rfl | rfl | rfl | rfl | rfl | rfl | rfl | rfl | rfl | rfl | rfl | rfl <;> rfl
theorem Io : opW [] = -1 := by decide
theorem Es {s : List UInt8} {c : Cal} (h : parT s = .ok c) : cTxt c = s ∧ eN c = true := by
 unfold parT at h
 by_cases h0 : opW s < 0
 ·rw [if_pos h0] at h; cases h
 ·rw [if_neg h0] at h
  by_cases ht : cTxt (mkC s) = s
  ·rw [if_pos ht] at h
   cases h
   refine ⟨ht, ?_⟩
   cases hr : eN (mkC s) with
   | true => rfl
   | false =>
    exfalso
    unfold cTxt at ht
    rw [hr, if_neg (by simp)] at ht
    rw [← ht, Io] at h0
    omega
  ·rw [if_neg ht] at h; cases h
theorem Et (s : List UInt8) : rigP (prsP s).1 = true := by
 unfold prsP
 split
 ·rfl
 ·split
  ·rfl
  ·split
   ·rename_i h; exact h.1
   ·rfl
theorem Eu (s : List UInt8) : rigP (frmP s) = true := by
 unfold frmP
 split
 ·rfl
 ·exact Et s
theorem s7 (s : List UInt8) : rigL (labP s).1 = true := by
 unfold labP
 split
 ·rfl
 ·split
  ·rfl
  ·split
   ·rename_i h; exact h.1
   ·rfl
theorem s8 (s : List UInt8) : rigO (ownP s).1 = true := by
 unfold ownP
 split
 ·exact oE
 ·split
  ·rename_i h; exact h
  ·exact oE
theorem yY : ∀ (n : Nat) (s a q : List UInt8), s.length ≤ n → jb a s = some q → q.length ≤ a.length + s.length := by
 intro n
 induction n using Nat.strongRecOn with
 | _ n ih =>
  intro s a q hn h
  match s, hn, h with
  | [], _, h => simp only [jb, Option.some.injEq] at h; subst h; simp
  | [x], _, h => simp only [jb, Option.some.injEq] at h; subst h; simp
  | x :: y :: r, hn, h =>
   rw [jb] at h
   split at h
   ·cases h
   ·simp only [List.length_cons] at hn
    have := ih r.length (by omega) r _ q (Nat.le_refl _) h
    simp only [List.length_append, List.length_cons, List.length_nil] at this ⊢
    omega
theorem Ev (w : List UInt8) : (txtW w).length ≤ w.length := by
 unfold txtW
 cases h : jb [] w with
 | none => simp
 | some q => have := yY _ w [] q (Nat.le_refl _) h; simpa using this
theorem Ip {o : Cal} {p : UInt8} {w : List UInt8} (ho : okC o) (hw : w.length ≤ 900000000) : okC (setP o p w) := by
 have f1 := (fG (Eu w)).1
 have f2 := gf (s7 w)
 have f3 := jA (s8 w)
 have f4 := Ev w
 have f5 : ∀ e ∈ (labP w).1, e.1.length ≤ 281474976710656 := fun e he => by have := (f2.1 e he).1; omega
 have f6 : shS (ownP w).1 := fun e he => by have := (f3.2 e he).2; omega
 unfold setP
 repeat' split
 ·exact ⟨by show (frmP w).length ≤ _; omega, ho.lab, ho.ent, ho.own, ho.text, ho.seg, ho.labS, ho.entS, ho.ownS, ho.catS⟩
 ·exact ⟨ho.at_, ho.lab, ho.ent, ho.own, ho.text, by show (frmP w).length ≤ _; omega, ho.labS, ho.entS, ho.ownS, ho.catS⟩
 ·exact ⟨ho.at_, by show (labP w).1.length ≤ _; omega, ho.ent, ho.own, ho.text, ho.seg, f5, ho.entS, ho.ownS, ho.catS⟩
 ·exact ⟨ho.at_, ho.lab, by show (labP w).1.length ≤ _; omega, ho.own, ho.text, ho.seg, ho.labS, f5, ho.ownS, ho.catS⟩
 ·exact ⟨ho.at_, ho.lab, ho.ent, ho.own, ho.text, ho.seg, ho.labS, ho.entS, ho.ownS, ho.catS⟩
 ·exact ⟨ho.at_, ho.lab, ho.ent, ho.own, ho.text, ho.seg, ho.labS, ho.entS, ho.ownS, ho.catS⟩
 ·exact ⟨ho.at_, ho.lab, ho.ent, by show (ownP w).1.length ≤ _; omega, ho.text, ho.seg, ho.labS, ho.entS, f6, ho.catS⟩
 ·exact ⟨ho.at_, ho.lab, ho.ent, ho.own, by show (txtW w).length ≤ _; omega, ho.seg, ho.labS, ho.entS, ho.ownS, ho.catS⟩
 ·exact ⟨ho.at_, ho.lab, ho.ent, ho.own, ho.text, ho.seg, ho.labS, ho.entS, ho.ownS, by show w.length ≤ _; omega⟩
 ·exact ⟨ho.at_, ho.lab, ho.ent, ho.own, ho.text, ho.seg, ho.labS, ho.entS, ho.ownS, ho.catS⟩
theorem Fy : ∀ (ps : List UInt8) (ws : List (List UInt8)) (o : Cal), okC o → (∀ w ∈ ws, w.length ≤ 900000000) → okC (prC o ps ws)
 | [], _, o, h, _ => by simpa [prC] using h
 | _ :: _, [], o, h, _ => by simpa [prC] using h
 | p :: ps, w :: ws, o, h, hw => by
  rw [prC]
  exact Fy ps ws _ (Ip h (hw w (by simp))) fun x hx => hw x (List.mem_cons_of_mem _ hx)
theorem Ci {s : List UInt8} (hs : s.length ≤ 900000000) : okC (mkC s) :=
 Fy _ _ _ (sR _) fun w hw => by
  have := kN (List.mem_of_mem_tail hw); omega
end Go.Proofs.YtibchilpaaiecaaGreatDoor.L
/- The document's words read: texts cut, numbers, labels, ownerships, paths: walked. -/
set_option linter.all false
set_option maxRecDepth 100000
set_option maxHeartbeats 32000000
namespace Go.Proofs.YtibchilpaaiecaaGreatDoor.L
open Go.Proofs.YtibchilpaaiecaaGreatDoor.M Go.Proofs.YtibchilpaaiecaaGreatDoor.F Go.Proofs
def cutS (c : UInt8) : List (List UInt8) → List UInt8 → List UInt8 → List (List UInt8) × List UInt8
 | out, w, [] => (out, w)
 | out, w, b :: r => if b = c then cutS c (out ++ [w]) [] r else cutS c out (w ++ [b]) r
theorem s9 (c : UInt8) : ∀ (l : List UInt8) (out : List (List UInt8)) (w x : List UInt8) (xs : List (List UInt8)), pcs c l = x :: xs → (cutS c out w l).1 ++ [(cutS c out w l).2] = out ++ ((w ++ x) :: xs)
 | [], out, w, x, xs, h => by
  rw [At] at h
  cases h
  simp [cutS]
 | b :: r, out, w, x, xs, h => by
  obtain ⟨y, ys, hr⟩ := lS c r
  by_cases hb : b = c
  ·subst hb
   rw [Au, hr] at h
   cases h
   rw [cutS, if_pos rfl, s9 b r _ _ y ys hr]
   simp
  ·rw [Av hb hr] at h
   cases h
   rw [cutS, if_neg hb, s9 c r _ _ y xs hr]
   simp
theorem Iq {s : List UInt8} {i : Nat} {x : UInt8} (h : s[i]? = some x) : cV none (.str ⟨s.toArray⟩) (some (some (i : Int))) (some (some ((i + 1 : Nat) : Int))) (some none) = some (.str ⟨[x].toArray⟩) := by
 obtain ⟨hi, hx⟩ := List.getElem?_eq_some_iff.1 h
 have hz : (⟨s.toArray⟩ : ByteArray).size = s.length := by simp [ByteArray.size]
 rw [rZ (by simp) (by simp; omega) (by rw [hz]; simp; omega)]
 simp only [Option.getD_some, Int.toNat_natCast, sE]
 congr 3
 rw [List.take_succ, List.drop_append_of_le_length (by simp; omega), h]
 simp [List.drop_eq_nil_of_le]
theorem yZ {s : List UInt8} {c : UInt8} {h : AH} (hs : s.length ≤ 100000000) : ∀ (d i : Nat) (out : List (List UInt8)) (w : List UInt8), d + i = s.length → out.length ≤ i → w.length ≤ i →
  den T (.loop gM) (lv (.str ⟨s.toArray⟩) (.int .u8 c.toNat) (ow (out.map encT)) (.str ⟨w.toArray⟩) (.int .i64 i)) h = some (.exit 0, lz (ow ((cutS c out w (s.drop i)).1.map encT)) (.str ⟨(cutS c out w (s.drop i)).2.toArray⟩), h) := by
 have hz : (⟨s.toArray⟩ : ByteArray).size = s.length := by simp [ByteArray.size]
 intro d
 induction d with
 | zero =>
  intro i out w hd ho hw
  have hd' : decide ((i : Int) < s.length) = false := decide_eq_false (by omega)
  rw [List.drop_eq_nil_of_le (by omega), cutS]
  rw [ae]
  simp -implicitDefEqProofs (disch := (refine ab ?_; first | assumption | omega | (simp [go_sem] <;> omega) | with_unfolding_all rfl | decide)) only [go_sem, Nat.reduceAdd, Nat.reduceSub, reduceIte, reduceCtorEq, hz, hd']
 | succ d ih =>
  intro i out w hd ho hw
  have hib : i < s.length := by omega
  have hd' : decide ((i : Int) < s.length) = true := decide_eq_true (by omega)
  have hg : (⟨s.toArray⟩ : ByteArray)[(i : Int).toNat]? = some s[i] := by
   have := gL (a := s) (i := i)
   rw [Int.toNat_natCast, this]; simp [hib]
  have h1 := Iq (s := s) (i := i) (x := s[i]) (by simp [hib])
  have hdr : s.drop i = s[i] :: s.drop (i + 1) := List.drop_eq_getElem_cons hib
  have e7 := incP (n := i) (by omega)
  have hml : (out.map encT).length = out.length := List.length_map ..
  rw [hdr, cutS]
  generalize s[i] = x at *
  by_cases hx : x = c
  ·have hq : ((x.toNat : Int) == (c.toNat : Int)) = true := by simp [hx]
   rw [if_pos hx]
   have ih' := ih (i + 1) (out ++ [w]) [] (by omega) (by simp; omega) (by simp)
   rw [show (out ++ [w]).map encT = out.map encT ++ [[.str ⟨w.toArray⟩]] by simp [encT]] at ih'
   rw [ae]
   simp (maxSteps := 2000000) -implicitDefEqProofs (disch := (refine ab ?_; first | assumption | omega | (simp [go_sem] <;> omega) | with_unfolding_all rfl | decide)) only [go_sem, Nat.reduceAdd, Nat.reduceSub, reduceIte, reduceCtorEq, hz, hd', hg, hq, e7, hml]
   exact ih'
  ·have hq : ((x.toNat : Int) == (c.toNat : Int)) = false := by
    rw [beq_eq_false_iff_ne]; intro z; exact hx (UInt8.toNat_inj.1 (by omega))
   rw [if_neg hx]
   have ih' := ih (i + 1) out (w ++ [x]) (by omega) (by omega) (by simp; omega)
   rw [ae]
   simp (maxSteps := 2000000) -implicitDefEqProofs (disch := (refine ab ?_; first | assumption | omega | (simp [go_sem] <;> omega) | with_unfolding_all rfl | decide)) only [go_sem, Nat.reduceAdd, Nat.reduceSub, reduceIte, reduceCtorEq, hz, hd', hg, hq, e7, h1]
   exact ih'
theorem nd {s : List UInt8} {c : UInt8} (hs : s.length ≤ 100000000) : run T 50 [.str ⟨s.toArray⟩, .int .u8 c.toNat] [] = some (ow ((pcs c s).map encT), []) := by
 have h1 := yZ (c := c) (h := []) hs s.length 0 [] [] (by omega) (by simp) (by simp)
 simp only [show ((0 : Nat) : Int) = 0 from rfl, List.drop_zero, List.map_nil] at h1
 obtain ⟨x, xs, hp⟩ := lS c s
 have h2 := s9 c s [] [] x xs hp
 rw [List.nil_append, List.nil_append] at h2
 have hn : (cutS c [] [] s).1.length ≤ s.length := by
  have h3 := congrArg List.length h2
  have h4 := vZ c s
  rw [hp] at h4
  simp only [List.length_append, List.length_cons, List.length_nil] at h3 h4
  omega
 rw [hp, ← h2]
 generalize cutS c [] [] s = q at *
 obtain ⟨out, w⟩ := q
 have hml : (out.map encT).length = out.length := List.length_map ..
 rw [af T_50]
 rw [show (out ++ [w]).map encT = out.map encT ++ [[.str ⟨w.toArray⟩]] by simp [encT]]
 simp only at h1 hn
 simp (maxSteps := 2000000) -implicitDefEqProofs (disch := (refine ab ?_; first | assumption | omega | (simp [go_sem] <;> omega) | with_unfolding_all rfl | decide)) only [go_sem, Nat.reduceAdd, Nat.reduceSub, reduceIte, reduceCtorEq, eo, h1, hml]
def rnD : Nat → Nat → List UInt8 → Option Nat
 | _, n, [] => some n
 | i, n, c :: r => if c.toNat < 48 ∨ 57 < c.toNat ∨ 7 < i then none else rnD (i + 1) (10 * n + (c.toNat - 48)) r
def h48 : List UInt8 → Bool
 | [] => true
 | c :: _ => decide (c ≠ 48)
theorem eq1 {n : Nat} : ((n : Int) == 1) = decide (n = 1) := by
 by_cases h : n = 1
 ·simp [h]
 ·rw [decide_eq_false h, beq_eq_false_iff_ne]; omega
def posR (s : List UInt8) (neg : Bool) : Int × Bool :=
 match rnD 0 0 s with
 | none => (0, false)
 | some n => (if neg then -(n : Int) else n, (!(s == [])) && (decide (s.length = 1) || h48 s) && !(neg && decide (n = 0)))
def numR : List UInt8 → Int × Bool
 | 45 :: r => posR r true
 | s => posR s false
theorem Cj : ∀ (l : List UInt8) (i n m : Nat), rnD i n l = some m → n < 10 ^ i → i + l.length ≤ 8 ∨ l = [] → m < 10 ^ (i + l.length)
 | [], i, n, m, h, hn, _ => by simp only [rnD, Option.some.injEq] at h; subst h; simpa using hn
 | c :: r, i, n, m, h, hn, hl => by
  rw [rnD] at h
  split at h
  ·cases h
  ·rename_i hc
   have := Cj r (i + 1) _ m h (by rw [Nat.pow_succ]; omega) (by
    rcases hl with hl | hl
    ·left; simp at hl; omega
    ·cases hl)
   rw [List.length_cons, show i + (r.length + 1) = i + 1 + r.length by omega]
   exact this
theorem y0 {s : List UInt8} {h : AH} {v4 : AV} (hv : v4.sh = v4) (hs : s.length ≤ 100000000) : ∀ (d i n : Nat), d + i = s.length → n < 10 ^ i →
  (∃ m, rnD i n (s.drop i) = some m ∧ den T (.loop bK) (cJ (.str ⟨s.toArray⟩) v4 (.int .i64 n) (.int .i64 i)) h = some (.exit 0, jv (.str ⟨s.toArray⟩) v4 (.int .i64 m), h)) ∨
  (rnD i n (s.drop i) = none ∧ ∃ σ, den T (.loop bK) (cJ (.str ⟨s.toArray⟩) v4 (.int .i64 n) (.int .i64 i)) h = some (.ret, σ, h) ∧ σ.getD 2 aa = .int .i64 0 ∧ σ.getD 3 aa = .bool false) := by
 have hz : (⟨s.toArray⟩ : ByteArray).size = s.length := by simp [ByteArray.size]
 intro d
 induction d with
 | zero =>
  intro i n hd hn
  have hd' : decide ((i : Int) < s.length) = false := decide_eq_false (by omega)
  refine .inl ⟨n, by rw [List.drop_eq_nil_of_le (by omega)]; rfl, ?_⟩
  rw [ae]
  simp -implicitDefEqProofs (disch := (refine ab ?_; first | assumption | omega | (simp [go_sem] <;> omega) | with_unfolding_all rfl | decide)) only [go_sem, Nat.reduceAdd, Nat.reduceSub, reduceIte, reduceCtorEq, hz, hd']
 | succ d ih =>
  intro i n hd hn
  have hib : i < s.length := by omega
  have hd' : decide ((i : Int) < s.length) = true := decide_eq_true (by omega)
  have hg : (⟨s.toArray⟩ : ByteArray)[(i : Int).toNat]? = some s[i] := by
   have := gL (a := s) (i := i)
   rw [Int.toNat_natCast, this]; simp [hib]
  have hdr : s.drop i = s[i] :: s.drop (i + 1) := List.drop_eq_getElem_cons hib
  have e7 := incP (n := i) (by omega)
  rw [hdr, rnD]
  generalize s[i] = c at *
  have hcl := c.toNat_lt
  by_cases h48 : c.toNat < 48
  ·have d4 : decide ((c.toNat : Int) < 48) = true := decide_eq_true (by omega)
   rw [if_pos (.inl h48)]
   refine .inr ⟨rfl, ?_⟩
   rw [ae]
   simp (maxSteps := 2000000) -implicitDefEqProofs (disch := (refine ab ?_; first | assumption | omega | (simp [go_sem] <;> omega) | with_unfolding_all rfl | decide)) only [go_sem, Nat.reduceAdd, Nat.reduceSub, reduceIte, reduceCtorEq, hz, hd', hg, d4]
   exact ⟨_, rfl, rfl, rfl⟩
  ·have d4 : decide ((c.toNat : Int) < 48) = false := decide_eq_false (by omega)
   by_cases h57 : 57 < c.toNat
   ·have d5 : decide ((c.toNat : Int) > 57) = true := decide_eq_true (by omega)
    rw [if_pos (.inr (.inl h57))]
    refine .inr ⟨rfl, ?_⟩
    rw [ae]
    simp (maxSteps := 2000000) -implicitDefEqProofs (disch := (refine ab ?_; first | assumption | omega | (simp [go_sem] <;> omega) | with_unfolding_all rfl | decide)) only [go_sem, Nat.reduceAdd, Nat.reduceSub, reduceIte, reduceCtorEq, hz, hd', hg, d4, d5]
    exact ⟨_, rfl, rfl, rfl⟩
   ·have d5 : decide ((c.toNat : Int) > 57) = false := decide_eq_false (by omega)
    by_cases h7 : 7 < i
    ·have d6 : decide ((i : Int) > 7) = true := decide_eq_true (by omega)
     rw [if_pos (.inr (.inr h7))]
     refine .inr ⟨rfl, ?_⟩
     rw [ae]
     simp (maxSteps := 2000000) -implicitDefEqProofs (disch := (refine ab ?_; first | assumption | omega | (simp [go_sem] <;> omega) | with_unfolding_all rfl | decide)) only [go_sem, Nat.reduceAdd, Nat.reduceSub, reduceIte, reduceCtorEq, hz, hd', hg, d4, d5, d6]
     exact ⟨_, rfl, rfl, rfl⟩
    ·have d6 : decide ((i : Int) > 7) = false := decide_eq_false (by omega)
     rw [if_neg (by omega)]
     have hp7 : 10 ^ i ≤ 10 ^ 7 := Nat.pow_le_pow_right (by omega) (by omega)
     have ih' := ih (i + 1) (10 * n + (c.toNat - 48)) (by omega) (by rw [Nat.pow_succ]; omega)
     have f1 : IntKind.i64.wrap (10 * (n : Int)) = ((10 * n : Nat) : Int) := by rw [w64 (by omega) (by omega)]; omega
     have f2 : IntKind.u8.wrap ((c.toNat : Int) - 48) = ((c.toNat - 48 : Nat) : Int) := by rw [w8]; omega
     have f3 : IntKind.i64.wrap ((c.toNat - 48 : Nat) : Int) = ((c.toNat - 48 : Nat) : Int) := w64 (by omega) (by omega)
     have f4 : IntKind.i64.wrap (((10 * n : Nat) : Int) + ((c.toNat - 48 : Nat) : Int)) = ((10 * n + (c.toNat - 48) : Nat) : Int) := by rw [w64 (by omega) (by omega)]; omega
     have hstep : den T (.loop bK) (cJ (.str ⟨s.toArray⟩) v4 (.int .i64 n) (.int .i64 i)) h = den T (.loop bK) (cJ (.str ⟨s.toArray⟩) v4 (.int .i64 ((10 * n + (c.toNat - 48) : Nat) : Int)) (.int .i64 (i + 1 : Nat))) h := by
      conv => lhs; rw [ae]
      simp (maxSteps := 2000000) -implicitDefEqProofs (disch := (refine ab ?_; first | assumption | omega | (simp [go_sem] <;> omega) | with_unfolding_all rfl | decide)) only [go_sem, Nat.reduceAdd, Nat.reduceSub, reduceIte, reduceCtorEq, hz, hd', hg, d4, d5, d6, f1, f2, f3, f4, e7]
      try rfl
     rw [hstep]
     exact ih'
theorem ta : ∀ (l : List UInt8) (i n m : Nat), rnD i n l = some m → l = [] ∨ i + l.length ≤ 8
 | [], i, n, m, h => .inl rfl
 | c :: r, i, n, m, h => by
  rw [rnD] at h
  split at h
  ·cases h
  ·rename_i hc
   rcases ta r (i + 1) _ m h with h1 | h1
   ·subst h1; right; simp; omega
   ·right; simp; omega
theorem uP {s : List UInt8} (hs : s.length ≤ 100000000) : run T 52 [.str ⟨s.toArray⟩] [] = some (.tup [.int .i64 (numR s).1, .bool (numR s).2], []) := by
 have key : ∀ (r : List UInt8) (neg : Bool), r.length ≤ 100000000 → (neg = true → s = 45 :: r) → (neg = false → s = r ∧ r.head? ≠ some 45) → run T 52 [.str ⟨s.toArray⟩] [] = some (.tup [.int .i64 (posR r neg).1, .bool (posR r neg).2], []) := by
  intro r neg hr hn1 hn2
  have hl := y0 (h := []) (v4 := .bool neg) rfl hr r.length 0 0 (by omega) (by simp)
  simp only [show ((0 : Nat) : Int) = 0 from rfl, List.drop_zero] at hl
  have hz : (⟨s.toArray⟩ : ByteArray).size = s.length := by simp [ByteArray.size]
  have hzr : (⟨r.toArray⟩ : ByteArray).size = r.length := by simp [ByteArray.size]
  rw [af T_52]
  unfold posR
  cases neg with
  | true =>
   have hsr := hn1 rfl
   have d1 : decide ((s.length : Int) > 0) = true := decide_eq_true (by rw [hsr]; simp <;> omega)
   have g0 : (⟨s.toArray⟩ : ByteArray)[(0 : Int).toNat]? = some 45 := by
    have := gL (a := s) (i := 0)
    rw [show (0 : Int).toNat = 0 from rfl, this, hsr]; rfl
   have d2 : (((45 : UInt8).toNat : Int) == 45) = true := rfl
   have s1 : cV none (.str ⟨s.toArray⟩) (some (some 1)) (some none) (some none) = some (.str ⟨r.toArray⟩) := by
    rw [hsr]; exact Bf (s := 45 :: r) (i := 1) (by omega) (by simp <;> omega)
   rcases hl with ⟨m, h1, h2⟩ | ⟨h1, σ, h2, h3, h4⟩
   ·have hlt := Cj _ _ _ _ h1 (by simp) (by rcases ta _ _ _ _ h1 with h | h <;> simp [h] <;> omega)
    have hm : m < 10 ^ 8 := by
     have := ta _ _ _ _ h1
     rcases this with h | h
     ·rw [h] at hlt; simp at hlt; omega
     ·exact Nat.lt_of_lt_of_le hlt (Nat.pow_le_pow_right (by omega) (by omega))
    have en : IntKind.i64.wrap (0 - (m : Int)) = -(m : Int) := by rw [w64 (by omega) (by omega)]; omega
    have em : ((m : Int) == 0) = decide (m = 0) := by by_cases h : m = 0 <;> simp [h]
    rw [h1]
    simp only
    cases r with
    | nil =>
     have e0 : (([] : List UInt8) == []) = true := rfl
     simp (maxSteps := 2000000) -implicitDefEqProofs (disch := (refine ab ?_; first | assumption | omega | (simp [go_sem] <;> omega) | with_unfolding_all rfl | decide)) only [go_sem, Nat.reduceAdd, Nat.reduceSub, reduceIte, reduceCtorEq, aF, hz, d1, g0, d2, s1, h2, e0, en, Bool.not_true, Bool.not_false, Bool.false_and]
    | cons c r =>
     have e0 : ((c :: r) == ([] : List UInt8)) = false := rfl
     have g1 : (⟨(c :: r).toArray⟩ : ByteArray)[(0 : Int).toNat]? = some c := by
      have := gL (a := c :: r) (i := 0)
      rw [show (0 : Int).toNat = 0 from rfl, this]; rfl
     have e1 := eq1 (n := (c :: r).length)
     have eh : h48 (c :: r) = decide (c ≠ 48) := rfl
     have e2 : ((c.toNat : Int) != 48) = decide (c ≠ 48) := by
      by_cases h : c = 48
      ·subst h; rfl
      ·rw [decide_eq_true h, bne_iff_ne]; intro z; exact h (UInt8.toNat_inj.1 (by simpa using (show c.toNat = 48 by omega)))
     generalize hS : c :: r = S at *
     cases a1 : decide (S.length = 1) <;> cases a2 : decide (c ≠ 48) <;> cases a3 : decide (m = 0) <;> rw [a1] at e1 <;> rw [a2] at e2 eh <;> rw [a3] at em <;>
     simp (maxSteps := 2000000) -implicitDefEqProofs (disch := (refine ab ?_; first | assumption | omega | (simp [go_sem] <;> omega) | with_unfolding_all rfl | decide)) only [go_sem, Nat.reduceAdd, Nat.reduceSub, reduceIte, reduceCtorEq, aF, hz, hzr, d1, g0, d2, s1, h2, e0, en, g1, e1, e2, em, eh, Bool.not_true, Bool.not_false, Bool.false_and, Bool.true_or, Bool.false_or, Bool.or_true, Bool.or_false]
   ·rw [h1]
    simp (maxSteps := 2000000) -implicitDefEqProofs (disch := (refine ab ?_; first | assumption | omega | (simp [go_sem] <;> omega) | with_unfolding_all rfl | decide)) only [go_sem, Nat.reduceAdd, Nat.reduceSub, reduceIte, reduceCtorEq, aF, hz, d1, g0, d2, s1, h2, h3, h4]
  | false =>
   obtain ⟨rfl, hh⟩ := hn2 rfl
   rcases hl with ⟨m, h1, h2⟩ | ⟨h1, σ, h2, h3, h4⟩
   ·have em : ((m : Int) == 0) = decide (m = 0) := by by_cases h : m = 0 <;> simp [h]
    rw [h1]
    simp only
    cases s with
    | nil =>
     have e0 : (([] : List UInt8) == []) = true := rfl
     have d1 : decide (((0 : Nat) : Int) > 0) = false := rfl
     simp (maxSteps := 2000000) -implicitDefEqProofs (disch := (refine ab ?_; first | assumption | omega | (simp [go_sem] <;> omega) | with_unfolding_all rfl | decide)) only [go_sem, Nat.reduceAdd, Nat.reduceSub, reduceIte, reduceCtorEq, aF, hz, d1, h2, e0, Bool.not_true, Bool.not_false, Bool.false_and]
    | cons c r =>
     have d1 : decide (((c :: r).length : Int) > 0) = true := decide_eq_true (by simp <;> omega)
     have e0 : ((c :: r) == ([] : List UInt8)) = false := rfl
     have g1 : (⟨(c :: r).toArray⟩ : ByteArray)[(0 : Int).toNat]? = some c := by
      have := gL (a := c :: r) (i := 0)
      rw [show (0 : Int).toNat = 0 from rfl, this]; rfl
     have d2 : ((c.toNat : Int) == 45) = false := by
      rw [beq_eq_false_iff_ne]; intro z; exact hh (by simp; exact UInt8.toNat_inj.1 (by simpa using (show c.toNat = 45 by omega)))
     have e1 := eq1 (n := (c :: r).length)
     have eh : h48 (c :: r) = decide (c ≠ 48) := rfl
     have e2 : ((c.toNat : Int) != 48) = decide (c ≠ 48) := by
      by_cases h : c = 48
      ·subst h; rfl
      ·rw [decide_eq_true h, bne_iff_ne]; intro z; exact h (UInt8.toNat_inj.1 (by simpa using (show c.toNat = 48 by omega)))
     generalize hS : c :: r = S at *
     cases a1 : decide (S.length = 1) <;> cases a2 : decide (c ≠ 48) <;> rw [a1] at e1 <;> rw [a2] at e2 eh <;>
     simp (maxSteps := 2000000) -implicitDefEqProofs (disch := (refine ab ?_; first | assumption | omega | (simp [go_sem] <;> omega) | with_unfolding_all rfl | decide)) only [go_sem, Nat.reduceAdd, Nat.reduceSub, reduceIte, reduceCtorEq, aF, hz, d1, g1, d2, h2, e0, e1, e2, eh, Bool.not_true, Bool.not_false, Bool.false_and, Bool.true_or, Bool.false_or, Bool.or_true, Bool.or_false]
   ·rw [h1]
    cases s with
    | nil => cases h1
    | cons c r =>
     have d1 : decide (((c :: r).length : Int) > 0) = true := decide_eq_true (by simp <;> omega)
     have g1 : (⟨(c :: r).toArray⟩ : ByteArray)[(0 : Int).toNat]? = some c := by
      have := gL (a := c :: r) (i := 0)
      rw [show (0 : Int).toNat = 0 from rfl, this]; rfl
     have d2 : ((c.toNat : Int) == 45) = false := by
      rw [beq_eq_false_iff_ne]; intro z; exact hh (by simp; exact UInt8.toNat_inj.1 (by simpa using (show c.toNat = 45 by omega)))
     generalize hS : c :: r = S at *
     simp (maxSteps := 2000000) -implicitDefEqProofs (disch := (refine ab ?_; first | assumption | omega | (simp [go_sem] <;> omega) | with_unfolding_all rfl | decide)) only [go_sem, Nat.reduceAdd, Nat.reduceSub, reduceIte, reduceCtorEq, aF, hz, d1, g1, d2, h2, h3, h4]
 by_cases hh : s.head? = some 45
 ·obtain ⟨r, rfl⟩ : ∃ r, s = 45 :: r := by
   cases s with
   | nil => cases hh
   | cons c r => simp at hh; exact ⟨r, by rw [hh]⟩
  exact key r true (by simp at hs; omega) (fun _ => rfl) (fun h => by cases h)
 ·have : numR s = posR s false := by
   cases s with
   | nil => rfl
   | cons c r =>
    unfold numR
    split
    ·rename_i h; cases h; exact absurd rfl hh
    ·rfl
  rw [this]
  exact key s false hs (fun h => by cases h) (fun _ => ⟨rfl, hh⟩)
end Go.Proofs.YtibchilpaaiecaaGreatDoor.L
