/- Calls whose answer's new slice becomes a box; calls that take a box's bytes as a shared slice for their own time. -/
import Derived.Test.YtibchilpaaiecaaGreatDoorM23
import Derived.Lib.SplitLaws
set_option linter.all false
namespace Go.Proofs.YtibchilpaaiecaaGreatDoor.M
open Go.RowKit
section
variable {P : Program}
theorem An {w0 : World} {g : Gh} {h : AH} {n : Nat → Nat} {w : World} (hi : Inv w0 g h n w) {pr : Nat → Nat → Option Value} (hp : ∀ B o v, g.prot B o = some v → pr B o = some v) (hc : ∀ B o v, pr B o = some v → w.cell? ⟨B, o, none⟩ = some v) :
  ∃ (n0 : Nat → Nat) (bv : List (List Value)), bv.length = h.length ∧ (∀ i b vs, h[i]? = some b → bv[i]? = some vs → oJ w0 g w i b vs) ∧ (∀ B, n B + tkBs h bv B ≤ 1) ∧ (∀ B, ij g h B → n0 B = 1) ∧ (∀ B, n B + tkBs h bv B ≤ n0 B) ∧
   (∀ B, 0 < n0 B → B < w.heap.size) ∧ Inv w ⟨pr, fun _ => none⟩ [] n0 w := by
 obtain ⟨bv, e1, e2, e3⟩ := hi.rest
 have hex : ∃ n0 : Nat → Nat, ∀ B, (ij g h B → n0 B = 1) ∧ (¬ ij g h B → n0 B = n B + tkBs h bv B) := by
  classical
  exact ⟨fun B => if ij g h B then 1 else n B + tkBs h bv B, fun B => ⟨fun x => if_pos x, fun x => if_neg x⟩⟩
 obtain ⟨n0, hn0⟩ := hex
 have hlive : ∀ B, ij g h B → n B = 0 ∧ tkBs h bv B = 0 ∧ B < w.heap.size := by
  rintro B ⟨i, b, hb, hd, hB⟩
  refine ⟨?_, ?_, (hi.bxd i B hB).2⟩
  ·cases e : n B with
   | zero => rfl
   | succ m => exact absurd hB ((hi.tokp B (by omega)).2 i b hb hd)
  ·cases e : tkBs h bv B with
   | zero => rfl
   | succ m =>
    obtain ⟨j, c, ys, q1, q2, q3⟩ := je (h := h) (bv := bv) (B := B) (by omega)
    exact absurd hB ((hi.prot_ok ((e2 j c ys q1 q2).tk_prot q3)).2 i b hb hd)
 have hle0 : ∀ B, n B + tkBs h bv B ≤ n0 B := fun B => by
  by_cases hl : ij g h B
  ·have := hlive B hl; omega
  ·rw [(hn0 B).2 hl]; exact Nat.le_refl _
 have hlt : ∀ B, 0 < n0 B → B < w.heap.size := fun B hB => by
  by_cases hl : ij g h B
  ·exact (hlive B hl).2.2
  ·rw [(hn0 B).2 hl] at hB
   by_cases hc : 0 < n B
   ·exact (hi.tokp B hc).1
   ·obtain ⟨j, c, ys, q1, q2, q3⟩ := je (h := h) (bv := bv) (B := B) (by omega)
    exact (hi.prot_ok ((e2 j c ys q1 q2).tk_prot q3)).1
 refine ⟨n0, bv, e1, e2, e3, fun B hl => (hn0 B).1 hl, hle0, hlt, hi.gw.below hi.below, hi.gl.mono hp, Below.refl _ _, hc, fun i B hB => by simp at hB, fun i j B hB => by simp at hB, fun B hB => ⟨hlt B hB, fun i b hb => by simp at hb⟩, [], rfl, fun i b ys hb => by simp at hb, fun B => ?_⟩
 simp only [tkBs, Nat.add_zero]
 by_cases hl : ij g h B
 ·rw [(hn0 B).1 hl]; exact Nat.le_refl _
 ·rw [(hn0 B).2 hl]; exact e3 B
theorem Dl {w : World} {B o : Nat} {v : Value} {cur : Array Value} {t : TypeId} {fr : Nat × Nat} (h : w.cell? ⟨B, o, none⟩ = some v) (hh : w.heap[B]? = some (.cells cur t fr)) : cur[o]? = some v := by
 simpa [World.cell?, hh] using h
theorem Dm {w : World} {B o : Nat} {v : Value} {cur : Array Value} {t : TypeId} {fr : Nat × Nat} (h : cur[o]? = some v) (hh : w.heap[B]? = some (.cells cur t fr)) : w.cell? ⟨B, o, none⟩ = some v := by
 simpa [World.cell?, hh] using h
def dk (o : Option (List AV × AH)) (K : List AV → AH → Prop) : Prop := match o with | some s => K s.1 s.2 | none => False
def dok (T : Tbl) (l : List CO) (σ : List AV) (h : AH) (K : List AV → AH → Prop) : Prop := dk (dops T l σ h) K
theorem JY {T : Tbl} {l : List CO} {σ : List AV} {h : AH} {K : List AV → AH → Prop} : dok T l σ h K = dk (dops T l σ h) K := rfl
theorem G5 {σ : List AV} {h : AH} {K : List AV → AH → Prop} : dk (some (σ, h)) K = K σ h := rfl
@[congr] theorem g_dk {o o' : Option (List AV × AH)} {K : List AV → AH → Prop} (h1 : o = o') : dk o K = dk o' K := by rw [h1]
@[congr] theorem KZ {f : FuncId} {a a' : List AV} {h : AH} {K : AV → AH → Prop} (h1 : a = a') : eU P f a h K = eU P f a' h K := by rw [h1]
theorem G6 {T : Tbl} (hT : ∀ f d, T f = some d → cW P f d) {l r : List CO} {d : Nat} {f : FuncId} {xs : List Opd} {σ : List AV} {h : AH} {rest : CC} {Q : Ex → List AV → AH → Prop}
  (hd : dok T l σ h (fun σ1 h1 => eU P f (shL (xs.map (ag σ1))) h1 (fun v h2 => dok T r (putA σ1 (some d) v) h2 (fun σ2 h3 => W P rest σ2 h3 Q)))) : W P (.seq (.region (l ++ ⟨some d, .call f xs, none⟩ :: r)) rest) σ h Q := by
 unfold dok dk at hd
 cases e : dops T l σ h with
 | none => rw [e] at hd; exact (show False from hd).elim
 | some s =>
  rw [e] at hd
  obtain ⟨σ1, h1⟩ := s
  show W P (.region (l ++ ⟨some d, .call f xs, none⟩ :: r)) σ h (fun e σ' h' => match e with | .normal => W P rest σ' h' Q | .exit i => Q (.exit i) σ' h' | .ret => Q .ret σ' h')
  refine JX hT e (eU.mono hd fun v h2 hk => ?_)
  cases e2 : dops T r (putA σ1 (some d) v) h2 with
  | none => rw [e2] at hk; exact (show False from hk).elim
  | some s => rw [e2] at hk; exact ⟨s, rfl, hk⟩
end
attribute [go_sem] JY G5
end Go.Proofs.YtibchilpaaiecaaGreatDoor.M
/- Calls whose answer's new slice of strings becomes a box; calls whose answer is a box nobody else knows: a shared slice. -/
set_option linter.all false
namespace Go.Proofs.YtibchilpaaiecaaGreatDoor.M
open Go.RowKit
def sAV (c : ByteArray) : AV := .str c
def encS (c : ByteArray) : List AV := [.str c]
theorem E8 {g : Gh} {B : Nat} : ∀ {l : List ByteArray} {o j : Nat} {c : ByteArray}, PE g (l.map encS) B o → l[j]? = some c → g.prot B (o + j) = some (.string c)
 | [], o, j, c, h, hj => by simp at hj
 | x :: l, o, 0, c, h, hj => by
  simp only [List.getElem?_cons_zero, Option.some.injEq] at hj
  subst hj
  simp only [List.map_cons, encS, PE, PR, VR] at h
  obtain ⟨⟨⟨u, h1, rfl, _⟩, _⟩, _⟩ := h
  exact h1
 | x :: l, o, j + 1, c, h, hj => by
  simp only [List.map_cons, encS, PE, List.length_cons, List.length_nil] at h
  have := E8 (o := o + 1) (j := j) h.2 (by simpa using hj)
  rwa [show o + (j + 1) = o + 1 + j by omega]
theorem Ao {g : Gh} {B : Nat} : ∀ {l : List ByteArray} {o : Nat}, (∀ j c, l[j]? = some c → g.prot B (o + j) = some (.string c)) → PE g (l.map encS) B o
 | [], o, h => by simp [PE]
 | x :: l, o, h => by
  simp only [List.map_cons, encS, PE, PR, VR, List.length_cons, List.length_nil]
  refine ⟨⟨⟨_, h 0 x rfl, rfl, rfl, rfl⟩, trivial⟩, Ao fun j c hj => ?_⟩
  have := h (j + 1) c (by simpa using hj)
  rwa [show o + (0 + 1) + j = o + (j + 1) by omega]
theorem ua : ∀ l : List ByteArray, elen (l.map encS) = l.length
 | [] => rfl
 | c :: l => by simp only [List.map_cons, elen, ua l, List.length_cons, encS, List.length_nil]; omega
theorem Ap {g : Gh} {l : List ByteArray} {vs : List Value} : VL g (l.map sAV) vs ↔ vs = l.map fun c => Value.string c := by
 induction l generalizing vs with
 | nil => simp [VL]
 | cons c l ih =>
  simp only [List.map_cons, VL, sAV, VR]
  constructor
  ·rintro ⟨v, vs', rfl, rfl, h⟩; rw [ih.1 h]
  ·rintro rfl; exact ⟨_, _, rfl, rfl, ih.2 rfl⟩
theorem Aq (l : List ByteArray) : aM (l.map sAV) = true := by
 induction l with
 | nil => rfl
 | cons c l ih => simp only [List.map_cons, aM, sAV, AV.one, ih]; rfl
theorem Dn (l : List ByteArray) (vs : List Value) (B : Nat) : tkL (l.map sAV) vs B = 0 := by
 induction l generalizing vs with
 | nil => simp [tkL]
 | cons c l ih => cases vs <;> simp [tkL, sAV, tk, ih]
theorem Dp (w0 : World) (g : Gh) (w : World) (l : List ByteArray) (vs : List Value) : OVL w0 g w (l.map sAV) vs := by
 induction l generalizing vs with
 | nil => simp [OVL]
 | cons c l ih => cases vs <;> simp [OVL, sAV, OV, ih]
section
variable {P : Program}
theorem yM {f : FuncId} {args : List AV} {h : AH} {l : List ByteArray} (hl : l ≠ []) (hm : mrL args = 0) (hc : eU P f args [] (fun r h' => h' = [] ∧ r = .sl .own (l.map encS))) :
  eU P f args h (fun r h' => r = .bs h.length 0 l.length none ∧ h' = h ++ [.cells (l.map sAV)]) := by
 obtain ⟨h1, h2, _⟩ := hc
 refine ⟨h1, ?_, ⟨_, _, rfl, rfl⟩⟩
 intro w0 g n w vs ha hcl hi
 obtain ⟨n0, bv, e1, e2, e3, hlv, hle0, hlt, hi0⟩ := An hi (pr := g.prot) (fun _ _ _ x => x) hi.prot
 refine (h2 w ⟨g.prot, fun _ => none⟩ n0 w vs (VL.noBox (g := g) (g' := ⟨g.prot, fun _ => none⟩) (fun _ _ _ x => x) _ _ ha hm) hcl hi0).mono ?_
 rintro e w' ⟨g', r, u, h', rfl, ⟨rfl, rfl⟩, hle, hkp, hvr, hov, hinv⟩
 simp only [VR] at hvr
 rcases hvr with ⟨hn, _⟩ | ⟨B, o, cap, rfl, hcap, _, hown, _, hpe⟩
 ·exact absurd hn (by simpa using hl)
 obtain ⟨_, rfl⟩ := hown trivial
 simp only [OV, ua] at hov
 obtain ⟨t1, t2, cur, tt, t3, t4⟩ := hov
 have hBw : ∀ B', B' < w.heap.size → B' ≠ B := fun B' h e => by omega
 have hgB : ∀ o, g.prot B o = none := fun o => by
  cases e : g.prot B o with
  | none => rfl
  | some v => exact absurd (hi.prot_ok ⟨o, v, e⟩).1 (by omega)
 have hbx : ∀ i B', g.bx i = some B' → i ≠ h.length ∧ B' ≠ B := fun i B' hB => by have := hi.bxd i B' hB; exact ⟨by omega, by omega⟩
 obtain ⟨gN, hgN⟩ : ∃ gN : Gh, gN = ⟨fun B' o => if B' = B then none else g'.prot B' o, fun i => if i = h.length then some B else g.bx i⟩ := ⟨_, rfl⟩
 have np : ∀ B' o, B' ≠ B → gN.prot B' o = g'.prot B' o := fun B' o hB => by rw [hgN]; simp [hB]
 have npB : ∀ o, gN.prot B o = none := fun o => by rw [hgN]; simp
 have nb : ∀ i, i ≠ h.length → gN.bx i = g.bx i := fun i hB => by rw [hgN]; simp [hB]
 have nbB : gN.bx h.length = some B := by rw [hgN]; simp
 have hgl : g.le gN := ⟨fun B' o v hv => by
   have : B' ≠ B := fun z => by rw [z, hgB] at hv; cases hv
   rw [np _ _ this]; exact hle.prot _ _ _ hv, fun i B' hB => by rw [nb i (hbx i B' hB).1]; exact hB⟩
 have hsz : w.heap.size ≤ w'.heap.size := hinv.below.size
 have hBs : B < w'.heap.size := (Array.getElem?_eq_some_iff.1 t3).1
 have hkeep : ∀ B', 0 < n0 B' → w'.heap[B']? = w.heap[B']? ∧ ∀ o, gN.prot B' o = g.prot B' o := fun B' hB => by
  obtain ⟨k1, k2⟩ := hkp B' hB
  exact ⟨k1, fun o => by rw [np _ _ (hBw B' (hlt B' hB))]; exact k2 o⟩
 have hcell : ∀ (j : Nat) (c : ByteArray), l[j]? = some c → cur[j]? = some (Value.string c) := fun j c hj => by
  have := E8 hpe hj
  rw [Nat.zero_add] at this
  exact Dl (hinv.prot _ _ _ this) t3
 have hcurl : cur.toList = (l.map fun c => Value.string c) ++ cur.toList.drop l.length := by
  conv => lhs; rw [← List.take_append_drop l.length cur.toList]
  congr 1
  apply List.ext_getElem?
  intro j
  by_cases hj : j < l.length
  ·rw [List.getElem?_take_of_lt hj]
   have := hcell j l[j] (by simp [hj])
   simp [hj] at this ⊢
   exact this
  ·rw [List.getElem?_eq_none (by simp; omega), List.getElem?_eq_none (by simp; omega)]
 refine ⟨gN, .bs h.length 0 l.length none, _, _, rfl, ⟨rfl, rfl⟩, hgl, fun B' hB => hkeep B' (Nat.lt_of_lt_of_le hB (Nat.le_trans (Nat.le_add_right _ _) (hle0 B'))), ?_, by simp [OV], ?_⟩
 ·simp only [VR]
  refine ⟨B, cap, 0, nbB, by simp, by simpa using hcap, fun c hc => (by cases hc), fun _ => rfl⟩
 ·refine ⟨hi.gw, hi.gl.mono hgl.prot, hi.below.trans (hinv.below.mono hi.below.size), fun B' o v hv => ?_, fun i B' hB => ?_, fun i j B' hB hB2 => ?_, fun B' hB => ?_, bv ++ [l.map fun c => Value.string c], by simp [e1], fun i b ys hb hy => ?_, fun B' => ?_⟩
  ·have : B' ≠ B := fun z => by rw [z, npB] at hv; cases hv
   rw [np _ _ this] at hv
   exact hinv.prot _ _ _ hv
  ·by_cases hil : i = h.length
   ·rw [hil, nbB] at hB; cases hB; rw [hil]; simp; exact hBs
   ·rw [nb i hil] at hB; have := hi.bxd i B' hB; simp; omega
  ·by_cases hil : i = h.length
   ·by_cases hjl : j = h.length
    ·omega
    ·rw [hil, nbB] at hB; cases hB; rw [nb j hjl] at hB2; exact absurd rfl (hbx j _ hB2).2
   ·by_cases hjl : j = h.length
    ·rw [hjl, nbB] at hB2; cases hB2; rw [nb i hil] at hB; exact absurd rfl (hbx i _ hB).2
    ·rw [nb i hil] at hB; rw [nb j hjl] at hB2; exact hi.inj _ _ _ hB hB2
  ·have hB0 : 0 < n B' := by simpa [tk] using hB
   obtain ⟨p1, p2⟩ := hi.tokp B' hB0
   refine ⟨by omega, fun i b hb hd => ?_⟩
   by_cases hil : i = h.length
   ·rw [hil, nbB]; intro z; cases z; omega
   ·rw [nb i hil]
    have hlt2 : i < h.length := by have := (List.getElem?_eq_some_iff.1 hb).1; simp at this; omega
    rw [List.getElem?_append_left hlt2] at hb
    exact p2 i b hb hd
  ·by_cases hil : i = h.length
   ·subst hil
    rw [List.getElem?_append_right (Nat.le_refl _), Nat.sub_self] at hb
    rw [← e1, List.getElem?_append_right (Nat.le_refl _), Nat.sub_self] at hy
    simp only [List.getElem?_cons_zero, Option.some.injEq] at hb hy
    subst hb hy
    refine ⟨B, tt, cur.toList.drop l.length, nbB, Nat.le_trans hi.below.size t1, ?_, Ap.2 rfl, Aq l, Dp _ _ _ _ _, npB⟩
    rw [t3, ← hcurl]
   ·have hlt2 : i < h.length := by have := (List.getElem?_eq_some_iff.1 hb).1; simp at this; omega
    rw [List.getElem?_append_left hlt2] at hb
    rw [List.getElem?_append_left (by omega)] at hy
    refine (e2 i b ys hb hy).keep hgl (fun hd B' hB => ?_) (fun B' hB => ?_)
    ·obtain ⟨k1, k2⟩ := hkeep B' (by rw [hlv B' ⟨i, b, hb, hd, hB⟩]; omega)
     exact ⟨k1, fun hn p => by rw [k2 p]; exact hn p⟩
    ·have := mq hb hy B'
     have := hle0 B'
     exact hkeep B' (by omega)
  ·rw [jd e1]
   have h3 := e3 B'
   simp only [tkB, Dn, tk]
   omega
theorem ub {f : FuncId} {args : List AV} {l : List ByteArray} (hc : eU P f args [] (fun r h' => r = .bs 0 0 l.length none ∧ ∃ pad : List ByteArray, h' = [.cells ((l ++ pad).map sAV)])) :
  eU P f args [] (fun r h' => h' = [] ∧ r = .sl .sh (l.map encS)) := by
 obtain ⟨h1, h2, _⟩ := hc
 refine ⟨h1, ?_, ⟨_, _, rfl, rfl⟩⟩
 intro w0 g n w vs ha hcl hi
 refine (h2 w0 g n w vs ha hcl hi).mono ?_
 rintro e w' ⟨g', r, u, h', rfl, ⟨rfl, pad, rfl⟩, hle, hkp, hvr, hov, hinv⟩
 simp only [VR] at hvr
 obtain ⟨B, C, o, hbx, rfl, hlen, _, hof⟩ := hvr
 obtain ⟨bv, e1, e2, e3⟩ := hinv.rest
 obtain ⟨vs0, el, ex, b1, b2, b3, b4, b5, b6⟩ : ∃ vs el ex, w0.heap.size ≤ B ∧ w'.heap[B]? = some (.cells (vs ++ ex).toArray el (0, 0)) ∧ VL g' ((l ++ pad).map sAV) vs ∧ aM ((l ++ pad).map sAV) = true ∧ OVL w0 g' w' ((l ++ pad).map sAV) vs ∧ gS g' B :=
  hinv.boxOf (id := 0) rfl hbx
 rw [Ap] at b3
 subst b3
 have hbn : ∀ i, g.bx i = none := fun i => by
  cases e : g.bx i with
  | none => rfl
  | some B' => have := (hi.bxd i B' e).1; simp at this
 obtain ⟨gN, hgN⟩ : ∃ gN : Gh, gN = ⟨fun B' p => if B' = B then w'.cell? ⟨B, p, none⟩ else g'.prot B' p, fun _ => none⟩ := ⟨_, rfl⟩
 have np : ∀ B' p, B' ≠ B → gN.prot B' p = g'.prot B' p := fun B' p hB => by rw [hgN]; simp [hB]
 have npB : ∀ p, gN.prot B p = w'.cell? ⟨B, p, none⟩ := fun p => by rw [hgN]; simp
 have nb : ∀ i, gN.bx i = none := fun i => by rw [hgN]
 have hlp : ∀ B' p v, g'.prot B' p = some v → gN.prot B' p = some v := fun B' p v hv => by
  have : B' ≠ B := fun z => by rw [z, b6 p] at hv; cases hv
  rw [np _ _ this]; exact hv
 have hgl : g.le gN := ⟨fun B' p v hv => hlp _ _ _ (hle.prot _ _ _ hv), fun i B' hB => by rw [hbn i] at hB; cases hB⟩
 have hne : ∀ B', 0 < n B' → B' ≠ B := fun B' hB z => by
  have := (hinv.tokp B' (by omega)).2 0 _ rfl (by simp)
  exact this (by rw [z]; exact hbx)
 refine ⟨gN, .sl .sh (l.map encS), _, [], rfl, ⟨rfl, rfl⟩, hgl, fun B' hB => ?_, ?_, by simp [OV], ?_⟩
 ·obtain ⟨k1, k2⟩ := hkp B' hB
  exact ⟨k1, fun p => by rw [np _ _ (hne B' hB)]; exact k2 p⟩
 ·simp only [VR]
  rcases Nat.eq_zero_or_pos C with hC | hC
  ·subst hC
   have hs0 : l.length = 0 := by omega
   obtain rfl := List.length_eq_zero_iff.1 hs0
   exact .inl ⟨rfl, by simp, _, rfl⟩
  ·obtain rfl := hof hC
   refine .inr ⟨B, 0, C, by simp, by simpa using hlen, fun z => (by cases z), fun z => (by cases z), ?_, Ao fun j c hj => ?_⟩
   ·intro e he
    obtain ⟨c, _, rfl⟩ := List.mem_map.1 he
    cases l with
    | nil => simp at he
    | cons x s => rfl
   ·rw [npB, Nat.zero_add]
    refine Dm ?_ b2
    obtain ⟨hjl, hjc⟩ := List.getElem?_eq_some_iff.1 hj
    simp [List.getElem?_append_left, hjl, hjc]
 ·refine ⟨hinv.gw, hinv.gl.mono hlp, hinv.below, fun B' p v hv => ?_, fun i B' hB => (by rw [nb] at hB; cases hB), fun i j B' hB => (by rw [nb] at hB; cases hB), fun B' hB => ?_, [], rfl, fun i b ys hb => by simp at hb, fun B' => ?_⟩
  ·by_cases z : B' = B
   ·rw [z, npB] at hv; rw [z]; exact hv
   ·rw [np _ _ z] at hv; exact hinv.prot _ _ _ hv
  ·have hB0 : 0 < n B' := by simpa [tk] using hB
   exact ⟨(hinv.tokp B' (by omega)).1, fun i b hb => by simp at hb⟩
  ·have := e3 B'
   simp only [tkBs, tk]
   omega
end
end Go.Proofs.YtibchilpaaiecaaGreatDoor.M
/- A greater table: what comes to something at a table comes to the same at a greater one. -/
set_option linter.all false
namespace Go.Proofs.YtibchilpaaiecaaGreatDoor.M
open Go.RowKit
def Tle (T T' : Tbl) : Prop := ∀ f d, T f = some d → T' f = some d
noncomputable def Tbl.put (T : Tbl) (k : FuncId) (d : Def) : Tbl := fun f => if f = k then some d else T f
theorem Tle.put {T : Tbl} {k : FuncId} {d : Def} (h : T k = none) : Tle T (T.put k d) := fun f e hf => by
 unfold Tbl.put
 by_cases hk : f = k
 ·subst hk; rw [h] at hf; cases hf
 ·rw [if_neg hk]; exact hf
theorem Tbl.put_ok {P : Program} {T : Tbl} {k : FuncId} {d : Def} (hT : ∀ f d, T f = some d → cW P f d) (hd : cW P k d) : ∀ f e, T.put k d f = some e → cW P f e := fun f e hf => by
 unfold Tbl.put at hf
 by_cases hk : f = k
 ·subst hk; rw [if_pos rfl] at hf; cases hf; exact hd
 ·rw [if_neg hk] at hf; exact hT f e hf
section
variable {T T' : Tbl} (hT : Tle T T')
include hT
theorem sa {rec : Rec} {f : FuncId} {args : List AV} {h : AH} {r : AV × AH} (hx : ji T rec f args h = some r) : ji T' rec f args h = some r := by
 unfold ji at hx ⊢
 cases e : T f with
 | none => simp only [e] at hx; cases hx
 | some d => simp only [e] at hx; simp only [hT f d e]; exact hx
theorem Ar {rec : Rec} {op : COp} {d : Option Nat} {σ : List AV} {h : AH} {r : List AV × AH} (hx : xeff T rec op d σ h = some r) : xeff T' rec op d σ h = some r := by
 unfold xeff at hx ⊢
 cases e : bZ op (ag σ) with
 | none => simp only [e] at hx ⊢; exact hx
 | some p =>
  obtain ⟨f, args, pu⟩ := p
  cases pu
  ·simp only [e, Option.map_eq_some_iff] at hx ⊢
   obtain ⟨y, h1, h2⟩ := hx
   exact ⟨y, sa hT h1, h2⟩
  ·simp only [e] at hx ⊢
   split at hx
   ·rename_i hm
    rw [if_pos hm]
    simp only [Option.bind_eq_some_iff] at hx ⊢
    obtain ⟨y, h1, h2⟩ := hx
    exact ⟨y, sa hT h1, h2⟩
   ·cases hx
theorem As {rec : Rec} : ∀ {l : List CO} {σ : List AV} {h : AH} {r : List AV × AH}, xops T rec l σ h = some r → xops T' rec l σ h = some r
 | [], σ, h, r, hx => hx
 | o :: l, σ, h, r, hx => by
  simp only [xops, Option.bind_eq_some_iff] at hx ⊢
  obtain ⟨y, h1, h2⟩ := hx
  exact ⟨y, Ar hT h1, As h2⟩
theorem xb {rec : Rec} : ∀ {l : List (CO × Bool)} {S : List Nat} {E : List (AH × AH)} {σ : List AV} {h : AH} {r : List AV × AH}, nA T rec S E l σ h = some r → nA T' rec S E l σ h = some r
 | [], S, E, σ, h, r, hx => hx
 | o :: l, S, E, σ, h, r, hx => by
  simp only [nA, Option.bind_eq_some_iff] at hx ⊢
  obtain ⟨y, h1, h2⟩ := hx
  exact ⟨y, Ar hT h1, xb h2⟩
theorem G7 {k : FuncId} (hx : rV T k = true) : rV T' k = true := by
 unfold rV at hx ⊢
 cases e : T k with
 | none => simp only [e] at hx; cases hx
 | some d => simp only [e] at hx; simp only [hT k d e]; exact hx
theorem G8 {ra rb : List AV → AH → Option St} {p : Nat} {σ : List AV} {h : AH} {v : AV} {r : St} (hx : rsS T ra rb p σ h v = some r) : rsS T' ra rb p σ h v = some r := by
 unfold rsS at hx ⊢
 split at hx
 ·split at hx
  ·rename_i hs
   simp only [G7 hT hs, if_true]
   exact hx
  ·cases hx
 ·cases hx
theorem Dq {rec : Rec} {c : CC} {σ : List AV} {h : AH} {r : St} (hx : step T rec c σ h = some r) : step T' rec c σ h = some r := by
 cases c with
 | region ops =>
  simp only [step, Option.map_eq_some_iff] at hx ⊢
  obtain ⟨y, h1, h2⟩ := hx
  exact ⟨y, As hT h1, h2⟩
 | dregion ops =>
  simp only [step, Option.map_eq_some_iff] at hx ⊢
  obtain ⟨y, h1, h2⟩ := hx
  exact ⟨y, xb hT h1, h2⟩
 | rsplit g p asg body => exact G8 hT hx
 | _ => exact hx
theorem JZ : ∀ (n : Nat) (c : CC) (σ : List AV) (h : AH) (r : St), ev T n c σ h = some r → ev T' n c σ h = some r := by
 intro n
 induction n with
 | zero => intro c σ h r hr; cases hr
 | succ n ih => intro c σ h r hr; exact Dq hT (pf c σ h (ev T n) (ev T' n) ih r hr)
theorem G9 (c : CC) (σ : List AV) (h : AH) (r : St) (hx : den T c σ h = some r) : den T' c σ h = some r := by
 obtain ⟨n, hn⟩ := wT hx
 exact tV (JZ hT n c σ h r hn)
theorem Ha {f : FuncId} {args : List AV} {h : AH} {r : AV × AH} (hx : run T f args h = some r) : run T' f args h = some r :=
 sa hT (mL f args h (den T) (den T') (G9 hT) r hx)
end
end Go.Proofs.YtibchilpaaiecaaGreatDoor.M
/- strings.Split at a separator of one byte: its contract taken in. -/
set_option linter.all false
namespace Go.Proofs.YtibchilpaaiecaaGreatDoor.M
open Go.RowKit
def pcs (c : UInt8) (s : List UInt8) : List (List UInt8) := (au c s).map (·.1)
theorem At (c : UInt8) : pcs c [] = [[]] := rfl
theorem Au (c : UInt8) (r : List UInt8) : pcs c (c :: r) = [] :: pcs c r := by
 unfold pcs; rw [au, if_pos rfl, List.map_cons]
theorem Av {b c : UInt8} (h : b ≠ c) {r f : List UInt8} {fs : List (List UInt8)} (hr : pcs c r = f :: fs) : pcs c (b :: r) = (b :: f) :: fs := by
 unfold pcs at hr ⊢
 rw [au, if_neg h]
 cases hs : au c r with
 | nil => rw [hs] at hr; cases hr
 | cons q qs =>
  obtain ⟨f', q'⟩ := q
  rw [hs] at hr
  simp only [List.map_cons, List.cons.injEq] at hr
  obtain ⟨rfl, rfl⟩ := hr
  rfl
theorem Dr (c : UInt8) (r : List UInt8) : Lib.index (c :: r) [c] = 0 := by
 unfold Lib.index; simp [List.isPrefixOf]
theorem xc {b c : UInt8} (h : b ≠ c) (r : List UInt8) : Lib.index (b :: r) [c] = if Lib.index r [c] == -1 then -1 else Lib.index r [c] + 1 := by
 have : (c == b) = false := by simpa using fun z : c = b => h z.symm
 rw [Lib.index]
 simp [List.isPrefixOf, this]
theorem Aw {b c : UInt8} (h : b ≠ c) (k : Nat) (r : List UInt8) : ∃ f fs, Lib.splitK [c] 0 k r = f :: fs ∧ Lib.splitK [c] 0 k (b :: r) = (b :: f) :: fs := by
 cases k with
 | zero => exact ⟨r, [], rfl, rfl⟩
 | succ k =>
  by_cases hi : Lib.index r [c] = -1
  ·refine ⟨r, [], ?_, ?_⟩
   ·rw [Lib.splitK, if_pos (by simp [hi])]
   ·rw [Lib.splitK, xc h, if_pos (by simp [hi])]
  ·have h0 := Lib.index_ge r [c]
   obtain ⟨i, hn⟩ : ∃ i : Nat, Lib.index r [c] = i := ⟨(Lib.index r [c]).toNat, by omega⟩
   have e1 : ((i : Int) == -1) = false := beq_eq_false_iff_ne.2 (by omega)
   have e2 : (((i : Int) + 1) == -1) = false := beq_eq_false_iff_ne.2 (by omega)
   refine ⟨r.take i, Lib.splitK [c] 0 k (r.drop (i + 1)), ?_, ?_⟩
   ·rw [Lib.splitK, hn, e1]; simp
   ·rw [Lib.splitK, xc h, hn, e1]
    simp only [Bool.false_eq_true, if_false]
    rw [e2]
    have : ((i : Int) + 1).toNat = i + 1 := by omega
    simp [this]
theorem qT (c : UInt8) : ∀ s : List UInt8, Lib.splitK [c] 0 (s.count c) s = pcs c s
 | [] => rfl
 | b :: r => by
  have ih := qT c r
  by_cases h : b = c
  ·subst h
   rw [List.count_cons_self, Lib.splitK, Dr, Au, ← ih]
   simp
  ·rw [List.count_cons_of_ne h]
   obtain ⟨f, fs, h1, h2⟩ := Aw h (r.count c) r
   rw [h2]
   exact (Av h (by rw [← ih]; exact h1)).symm
theorem yN (s : ByteArray) (c : UInt8) : Lib.splitB ⟨#[c]⟩ 0 (Lib.countB s ⟨#[c]⟩) s = (pcs c s.data.toList).map fun x => (⟨x.toArray⟩ : ByteArray) := by
 have h1 := Lib.splitB_data ⟨#[c]⟩ 0 (Lib.countB s ⟨#[c]⟩) s
 have h2 : Lib.countB s ⟨#[c]⟩ = s.data.toList.count c := by
  show Lib.count s.data.toList [c] = _
  exact Lib.count_one c _
 rw [h2] at h1 ⊢
 have h3 : Lib.splitK [c] 0 (s.data.toList.count c) s.data.toList = pcs c s.data.toList := qT c _
 rw [show (⟨#[c]⟩ : ByteArray).data.toList = [c] from rfl, h3] at h1
 rw [← h1, List.map_map]
 conv => lhs; rw [← List.map_id (Lib.splitB ⟨#[c]⟩ 0 (s.data.toList.count c) s)]
 rfl
def splP : List AV → AH → Option (AV × AH)
 | [.str s, .str sep], h => match sep.data.toList with
  | [c] => if s.size < 4294967281 then some (.sl .sh (((pcs c s.data.toList).map fun x => (⟨x.toArray⟩ : ByteArray)).map encS), h) else none
  | _ => none
 | _, _ => none
theorem J0 {P : Program} {f : FuncId} (hc : dx P f) {el : TypeId}
  (H : ∀ (s : ByteArray) (c : UInt8) (w : World), s.size < 4294967281 → Calls P f #[.string s, .string ⟨#[c]⟩] w fun e w' =>
   e = .returned (.slice (some ⟨w.heap.size, 0, none⟩) (Lib.countB s ⟨#[c]⟩ + 1) (Lib.countB s ⟨#[c]⟩ + 1)) ∧ w' = w.alloc (.cells ((Lib.splitB ⟨#[c]⟩ 0 (Lib.countB s ⟨#[c]⟩) s).map Value.string).toArray el)) :
  cW P f (.prim splP) := by
 intro args h r h' hp K hK
 unfold splP at hp
 split at hp <;> try (cases hp; done)
 rename_i s sep
 split at hp <;> try (cases hp; done)
 rename_i c hsep
 split at hp <;> cases hp
 rename_i hs
 obtain rfl : sep = ⟨#[c]⟩ := by
  obtain ⟨d⟩ := sep
  congr 1
  exact Array.ext' hsep
 refine ⟨hc, ?_, _, _, hK⟩
 intro w0 g n w vs hv hcl hi
 simp only [VL, VR] at hv
 obtain ⟨_, _, rfl, rfl, _, _, rfl, rfl, rfl⟩ := hv
 refine (H s c w hs).mono ?_
 rintro e w' ⟨rfl, rfl⟩
 have hlen : (Lib.splitB ⟨#[c]⟩ 0 (Lib.countB s ⟨#[c]⟩) s).length = Lib.countB s ⟨#[c]⟩ + 1 := Lib.splitB_all ⟨#[c]⟩ (by show 1 ≤ 1; omega) 0 _ s rfl
 rw [yN] at hlen ⊢
 generalize (pcs c s.data.toList).map (fun x => (⟨x.toArray⟩ : ByteArray)) = l at *
 generalize Lib.countB s ⟨#[c]⟩ + 1 = N at *
 obtain ⟨a1, a2, a3, a4⟩ := hi.allocRow (l.map Value.string).toArray el N (by simp [hlen])
 have htk : ((l.map Value.string).toArray.toList.take N) = l.map Value.string := by
  rw [← hlen]
  exact List.take_of_length_le (by simp)
 rw [htk] at a1 a2 a3 a4
 refine ⟨_, .sl .sh (l.map encS), _, h, rfl, hK, a2, a3, ?_, by simp [OV], ?_⟩
 ·simp only [VR]
  refine .inr ⟨w.heap.size, 0, N, by simp [hlen], by simp [hlen], fun z => (by cases z), fun z => (by cases z), ?_, Ao fun j c hj => ?_⟩
  ·intro e he
   obtain ⟨c, _, rfl⟩ := List.mem_map.1 he
   cases l with
   | nil => simp at he
   | cons x s => rfl
  ·obtain ⟨hjl, hjc⟩ := List.getElem?_eq_some_iff.1 hj
   simp [Gh.addProt, hjl, hjc]
 ·simpa [tk] using a1
def ixbP : List AV → AH → Option (AV × AH)
 | [.str s, .int .u8 n], h => some (.int .i64 (Lib.indexByte s.data.toList n.toNat.toUInt8), h)
 | _, _ => none
theorem J1 {P : Program} {f : FuncId} (hc : dx P f)
  (H : ∀ (s : ByteArray) (c : Int) (w : World), Calls P f #[.string s, .int .u8 c] w fun e w' => e = .returned (.int .i64 (Lib.indexByte s.data.toList c.toNat.toUInt8)) ∧ w' = w) : cW P f (.prim ixbP) := by
 intro args h r h' hp K hK
 unfold ixbP at hp
 split at hp <;> cases hp
 rename_i s n
 refine iX hc rfl (fun w0 g m w vs hv hi => ?_) hK
 simp only [VL, VR] at hv
 obtain ⟨_, _, rfl, rfl, _, _, rfl, rfl, rfl⟩ := hv
 refine (H s n w).mono ?_
 rintro e w' ⟨rfl, rfl⟩
 exact ⟨_, rfl, fun g => rfl, Below.refl _ _⟩
end Go.Proofs.YtibchilpaaiecaaGreatDoor.M
