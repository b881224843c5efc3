/- What is compiled, within a round of a range over a function. -/
import Derived.Test.YtibchilpaaiecaaGreatDoorM14
import Derived.OrdersIn
set_option linter.unusedVariables false
set_option linter.unusedSimpArgs false
namespace Go.Proofs.YtibchilpaaiecaaGreatDoor.M
open Go.RowKit
section
variable {P : Program} {w0 w : World} {ds : List Deferred} {g : Gh} {h : AH} {n : Nat → Nat} {σ : List AV} {a : Act} {l : Nat}
abbrev FR (l : Nat) : Fence := Fence.wide.inRound l
theorem FV {m : Nat} {row : String} {args : Array Value} {R : Value → World → Prop} (h : Rows P row args w R) : RowsIn (FR l) m P row args w R := by
 intro c cs _
 obtain ⟨v, w', hR, hs⟩ := h c cs
 exact ⟨v, w', hR, stepsIn_wide.2 hs⟩
theorem Ky {o : Oper} {K : Act → World → Prop} {Q : Exit → Act → World → Prop} (hd : ∀ c, o.op ≠ .defer c) (h : o.wp P a w K Q) : o.wpIn (FR l) 0 P a w K Q := by
 refine ⟨fun f _ => trivial, ?_⟩
 rw [show o.semAt (FR l).round a.eval = execOp a.eval o from Oper.semAt_some l _ o hd]
 unfold Oper.wp at h
 generalize (execOp a.eval o).run P w = r at h
 have hdep : (FR l).depth.isSome = true → 1 ≤ 0 := fun x => by simp [Fence.inRound, Fence.wide] at x
 cases r with
 | ok x w' =>
  cases x with
  | value v => exact h
  | skip => exact h
  | defer d => exact h
  | enter f args => exact ⟨hdep, CallsIn.inRound l (callsIn_wide.2 h)⟩
  | row r args => exact ⟨hdep, FV h⟩
  | _ => exact h.elim
 | halt x w' => cases x <;> exact h
theorem pb {mv : Bool} {op : Op} {c : COp} (hc : oX P mv op = some c) : ∀ d, op ≠ .defer d := by
 rintro d rfl
 simp [oX] at hc
theorem ka {ops : Array Oper} {mvs : List Nat} {Q : Exit → Act → World → Prop} {K : List AV → AH → Prop} : ∀ {ll : List Oper} {k : Nat} {cos : List CO} {g : Gh} {σ : List AV} {h : AH} {a : Act} {w : World}, eY P ops mvs k ll = some cos → SR ds w0 g n σ h a w → Wops P cos σ h K →
  (∀ g' σ' h' a' w', K σ' h' → g.le g' → Keep n g w g' w' → SR ds w0 g' n σ' h' a' w' → Q .normal a' w') → wpListIn (FR l) 0 P ops Q ll a w
 | [], k, cos, g, σ, h, a, w, hc, hs, hk, hQ => by
  simp only [eY, Option.some.injEq] at hc; subst hc
  exact hQ g σ h a w hk (Gh.le.refl g) (Keep.refl _ _ _) hs
 | o :: ll, k, cos, g, σ, h, a, w, hc, hs, hk, hQ => by
  simp only [eY] at hc
  split at hc <;> cases hc
  rename_i op gd cos' h1 h2 h3
  simp only [Wops] at hk
  have hnext : ∀ a' w', bI ds w0 g n w (fun σ' h' => Wops P cos' σ' h' K) a' w' → wpListIn (FR l) 0 P ops Q ll a' w' := by
   rintro a' w' ⟨g', σ', h', q, lg, k, s⟩
   exact ka h3 s q fun g2 σ2 h2 a2 w2 q2 l2 k2 s2 => hQ g2 σ2 h2 a2 w2 q2 (lg.trans l2) (k.trans k2) s2
  have run : Wop P op o.dst σ h (fun σ' h' => Wops P cos' σ' h' K) → o.wpIn (FR l) 0 P a w (wpListIn (FR l) 0 P ops Q ll) Q := fun hw =>
   Oper.wpIn_mono hnext (Ky (pb h1) (iB (Q := Q) h1 hs hw))
  have skp : Wops P cos' (putA σ o.dst aa) h K → wpListIn (FR l) 0 P ops Q ll (a.put o.dst undef) w := fun hw => ka h3 (hs.skip o.dst) hw hQ
  simp only [wpListIn]
  rcases rM hk with ⟨q1, q2⟩ | ⟨q1, q2⟩
  ·have hwant := (fQ (o := o) hs.vl h2 (by simp only at q1; rw [q1]; simp)).resolve_right (fun x => by simp only at q1; rw [q1] at x; simp at x)
   rw [if_pos hwant.2]
   exact run q2
  ·have hwant := (fQ (o := o) hs.vl h2 (by simp only at q1; rw [q1]; simp)).resolve_left (fun x => by simp only at q1; rw [q1] at x; simp at x)
   rw [hwant.2]
   simp only [Bool.false_eq_true, if_false]
   exact ⟨fun f _ => trivial, skp q2⟩
theorem least {p : Nat → Prop} (h : ∃ m, p m) : ∃ m, p m ∧ ∀ k, p k → m ≤ k := by
 obtain ⟨m, hm⟩ := h
 induction m using Nat.strongRecOn with
 | _ m ih =>
  by_cases hl : ∃ k, k < m ∧ p k
  ·obtain ⟨k, hk, hp⟩ := hl; exact ih k hk hp
  ·exact ⟨m, hm, fun k hk => Nat.le_of_not_lt fun hlt => hl ⟨k, hlt, hk⟩⟩
open Classical in
theorem tQ {F : Fence} {m0 : Nat} {c : Code} {Q : Exit → Act → World → Prop} (I : Nat → Act → World → Prop) (m : Nat) (h₀ : I m a w)
  (round : ∀ m a w, I m a w → c.wpIn F m0 P (Exit.then (fun a' w' => ∃ m', m' < m ∧ I m' a' w') Q) a w) : (Code.loop c).wpIn F m0 P Q a w := by
 let μ : Act → World → Nat := fun a w => if H : ∃ m, I m a w then Classical.choose (least H) else 0
 refine wpIn_loop (fun a w => ∃ m, I m a w) μ ⟨m, h₀⟩ fun a w hI => ?_
 have hμ : μ a w = Classical.choose (least hI) := dif_pos hI
 refine wpIn_mono (round _ a w (Classical.choose_spec (least hI)).1) ?_
 rintro e a' w' q
 cases e with
 | normal =>
  obtain ⟨m', hlt, hI'⟩ := q
  refine ⟨⟨m', hI'⟩, ?_⟩
  rw [hμ, show μ a' w' = Classical.choose (least ⟨m', hI'⟩) from dif_pos ⟨m', hI'⟩]
  exact Nat.lt_of_le_of_lt ((Classical.choose_spec (least ⟨m', hI'⟩)).2 _ hI') hlt
 | _ => exact q
theorem tR : ∀ {c : Code} {hs0 hs1 : HL} {cc : CC} {Q : Ex → List AV → AH → Prop} {g : Gh} {σ : List AV} {h : AH} {a : Act} {w : World}, noRF c = true → iV c = true → cA P c hs0 = some (cc, hs1) → SR ds w0 g n σ h a w → W P cc σ h Q → c.wpIn (FR l) 0 P (Post ds w0 g n w Q) a w
 | .skip, hs0, hs1, cc, Q, g, σ, h, a, w, hn, hd, hc, hs, hk => by
  simp only [cA, Option.some.injEq, Prod.mk.injEq] at hc; obtain ⟨rfl, rfl⟩ := hc
  exact wpIn_skip ⟨.normal, g, σ, h, rfl, hk, Gh.le.refl g, Keep.refl _ _ _, hs⟩
 | .region id ops false, hs0, hs1, cc, Q, g, σ, h, a, w, hn, hd, hc, hs, hk => by
  simp only [cA] at hc
  split at hc <;> cases hc
  rename_i l hl
  replace hk := cP hk
  refine wpIn_region_list (ka hl (hs.kill _) hk fun g' σ' h' a' w' q lg k s => ⟨.normal, g', σ', h', rfl, q, lg, k, s⟩)
 | .region id ops true, hs0, hs1, cc, Q, g, σ, h, a, w, hn, hd, hc, hs, hk => by simp [iV] at hd
 | .seq x y, hs0, hs1, cc, Q, g, σ, h, a, w, hn, hd, hc, hs, hk => by
  simp only [cA] at hc
  split at hc <;> try (cases hc; done)
  rename_i a' hsa h1
  split at hc <;> cases hc
  rename_i b' h2
  simp only [noRF, Bool.and_eq_true] at hn
  simp only [iV, Bool.and_eq_true] at hd
  refine wpIn_seq (wpIn_mono (tR hn.1 hd.1 h1 hs hk) ?_)
  rintro e a1 w1 ⟨x1, g1, σ1, h1', rfl, q, lg, k, s⟩
  cases x1 with
  | normal => exact wpIn_mono (tR hn.2 hd.2 h2 s q) fun e a2 w2 hp => hp.trans lg k
  | exit i => exact ⟨.exit i, g1, σ1, h1', rfl, q, lg, k, s⟩
  | ret => exact ⟨.ret, g1, σ1, h1', rfl, q, lg, k, s⟩
 | .cond c x y, hs0, hs1, cc, Q, g, σ, h, a, w, hn, hd, hc, hs, hk => by
  simp only [cA] at hc
  split at hc <;> try (cases hc; done)
  rename_i c' x' hsx h1 h2
  split at hc <;> cases hc
  rename_i y' h3
  simp only [noRF, Bool.and_eq_true] at hn
  simp only [iV, Bool.and_eq_true] at hd
  have vc := ai hs.inv.gl hs.vl h1
  simp only [W] at hk
  split at hk <;> try (exact hk.elim)
  rename_i b hb
  rw [hb] at vc
  simp only [VR] at vc
  cases b
  ·exact wpIn_cond_false vc (tR hn.2 hd.2 h3 hs (hk.2 rfl))
  ·exact wpIn_cond_true vc (tR hn.1 hd.1 h2 hs (hk.1 rfl))
 | .block id c, hs0, hs1, cc, Q, g, σ, h, a, w, hn, hd, hc, hs, hk => by
  simp only [cA] at hc
  split at hc <;> cases hc
  rename_i c' h1
  simp only [noRF] at hn
  simp only [iV] at hd
  refine wpIn_block (wpIn_mono (tR hn hd h1 hs hk) ?_)
  rintro e a1 w1 ⟨x1, g1, σ1, h1', rfl, q, lg, k, s⟩
  cases x1 with
  | normal => exact ⟨.normal, g1, σ1, h1', rfl, q, lg, k, s⟩
  | exit i =>
   simp only at q
   by_cases hi : i = id
   ·simp only [hi, if_true] at q
    simp only [Ex.out, Exit.inBlock, hi, if_true]
    exact ⟨.normal, g1, σ1, h1', rfl, q, lg, k, s⟩
   ·simp only [hi, if_false] at q
    simp only [Ex.out, Exit.inBlock, hi, if_false]
    exact ⟨.exit i, g1, σ1, h1', rfl, q, lg, k, s⟩
  | ret => exact ⟨.ret, g1, σ1, h1', rfl, q, lg, k, s⟩
 | .loop c, hs0, hs1, cc, Q, g, σ, h, a, w, hn, hd, hc, hs, hk => by
  simp only [cA] at hc
  split at hc <;> cases hc
  rename_i c' h1
  simp only [noRF] at hn
  simp only [iV] at hd
  replace hk := cP hk
  replace hs := hs.kill (popH hs0).1.1
  generalize dD (popH hs0).1.1 σ = σ at *
  obtain ⟨I, m, hI, round⟩ := hk
  refine tQ (fun m a' w' => ∃ g' σ' h', I σ' h' m ∧ g.le g' ∧ Keep n g w g' w' ∧ SR ds w0 g' n σ' h' a' w') m ⟨g, σ, h, hI, Gh.le.refl g, Keep.refl _ _ _, hs⟩ ?_
  rintro m a1 w1 ⟨g1, σ1, h1', hI1, lg, k, s⟩
  refine wpIn_mono (tR hn hd h1 (s.kill _) (cP (round _ _ _ hI1))) ?_
  rintro e a2 w2 ⟨x2, g2, σ2, h2', rfl, q, lg2, k2, s2⟩
  cases x2 with
  | normal => obtain ⟨m', hm, hI'⟩ := q; exact ⟨m', hm, g2, σ2, h2', hI', lg.trans lg2, k.trans k2, s2⟩
  | exit i => exact ⟨.exit i, g2, σ2, h2', rfl, q, lg.trans lg2, k.trans k2, s2⟩
  | ret => exact ⟨.ret, g2, σ2, h2', rfl, q, lg.trans lg2, k.trans k2, s2⟩
 | .exit id, hs0, hs1, cc, Q, g, σ, h, a, w, hn, hd, hc, hs, hk => by
  simp only [cA, Option.some.injEq, Prod.mk.injEq] at hc; obtain ⟨rfl, rfl⟩ := hc
  exact wpIn_exit ⟨.exit id, g, _, h, rfl, cP hk, Gh.le.refl g, Keep.refl _ _ _, hs.kill _⟩
 | .ret, hs0, hs1, cc, Q, g, σ, h, a, w, hn, hd, hc, hs, hk => by
  simp only [cA, Option.some.injEq, Prod.mk.injEq] at hc; obtain ⟨rfl, rfl⟩ := hc
  exact wpIn_ret ⟨.ret, g, _, h, rfl, cP hk, Gh.le.refl g, Keep.refl _ _ _, hs.kill _⟩
 | .rangeFunc .., hs0, hs1, cc, Q, g, σ, h, a, w, hn, hd, hc, hs, hk => by simp [noRF] at hn
 | .scope _, hs0, hs1, cc, Q, g, σ, h, a, w, hn, hd, hc, hs, hk => by simp [cA] at hc
 | .label _, hs0, hs1, cc, Q, g, σ, h, a, w, hn, hd, hc, hs, hk => by simp [cA] at hc
 | .goto _, hs0, hs1, cc, Q, g, σ, h, a, w, hn, hd, hc, hs, hk => by simp [cA] at hc
 | .refuse _, hs0, hs1, cc, Q, g, σ, h, a, w, hn, hd, hc, hs, hk => by
  simp only [cA, Option.some.injEq, Prod.mk.injEq] at hc; obtain ⟨rfl, rfl⟩ := hc
  simp only [W, Wops, Wg] at hk
  have hk2 : Wop P .stuck none σ h _ := hk
  obtain ⟨r, hr, _⟩ := hk2
  simp [xop] at hr
end
end Go.Proofs.YtibchilpaaiecaaGreatDoor.M
/- A range over the iterator of strings.SplitSeq: what is compiled speaks of the machine. -/
set_option linter.unusedVariables false
set_option linter.unusedSimpArgs false
namespace Go.Proofs.YtibchilpaaiecaaGreatDoor.M
open Go.RowKit
def lj (w : World) (r : Nat) : Prop := ∃ o : Obj, w.heap[r]? = some o ∧ o.isCells = false ∧ ∀ en clock, o ≠ .map en clock
theorem lj.loop {w : World} {r : Nat} {x : Loop} (h : w.heap[r]? = some (.loop x)) : lj w r := ⟨_, h, rfl, fun _ _ e => by cases e⟩
theorem lj.deferred {w : World} {r : Nat} {x : Option (List Deferred)} (h : w.heap[r]? = some (.deferred x)) : lj w r := ⟨_, h, rfl, fun _ _ e => by cases e⟩
section
variable {P : Program} {w0 w : World} {ds : List Deferred} {g : Gh} {h : AH} {n : Nat → Nat} {σ : List AV} {a : Act}
theorem Inv.inert (hi : Inv w0 g h n w) {r : Nat} (hr : lj w r) : (∀ o, g.prot r o = none) ∧ ∀ i b, h[i]? = some b → b ≠ .dead → g.bx i ≠ some r := by
 obtain ⟨ob, h1, h2, h3⟩ := hr
 constructor
 ·intro o
  cases e : g.prot r o with
  | none => rfl
  | some u =>
   have := hi.prot r o u e
   simp only [World.cell?, h1] at this
   cases ob <;> simp [Obj.isCells] at h2 this
 ·intro i b hb hd hB
  obtain ⟨bv, e1, e2, e3⟩ := hi.rest
  have hil := (List.getElem?_eq_some_iff.1 hb).1
  have hbx := e2 i b bv[i] hb (by simp [e1, hil])
  cases b with
  | dead => exact hd rfl
  | cells cs => obtain ⟨B, el, ex, q1, q2, q3, _⟩ := hbx; rw [hB] at q1; cases q1; rw [h1] at q3; cases q3; simp [Obj.isCells] at h2
  | amap es => obtain ⟨B, en, clock, q1, q2, q3, _⟩ := hbx; rw [hB] at q1; cases q1; rw [h1] at q3; cases q3; exact h3 _ _ rfl
theorem Inv.keepAll {w' : World} (hi : Inv w0 g h n w) (hb : Below w0.heap.size w0 w') (hs : w.heap.size ≤ w'.heap.size)
  (hk : ∀ B, (∃ o u, g.prot B o = some u) ∨ (∃ i b, h[i]? = some b ∧ b ≠ .dead ∧ g.bx i = some B) → w'.heap[B]? = w.heap[B]?) : Inv w0 g h n w' := by
 obtain ⟨bv, e1, e2, e3⟩ := hi.rest
 refine ⟨hi.gw, hi.gl, hb, fun B o v hv => ?_, fun i B hB => ⟨(hi.bxd i B hB).1, by have := (hi.bxd i B hB).2; omega⟩, hi.inj, fun B hB => ⟨by have := (hi.tokp B hB).1; omega, (hi.tokp B hB).2⟩, bv, e1, fun i b xs hb' hx => ?_, e3⟩
 ·rw [cell?_of_heap (hk B (.inl ⟨o, v, hv⟩))]; exact hi.prot B o v hv
 ·have hbx := e2 i b xs hb' hx
  exact hbx.keep (Gh.le.refl g) (fun hd B hB => ⟨hk B (.inr ⟨i, b, hb', hd, hB⟩), fun x => x⟩) (fun B hB => ⟨hk B (.inl (hbx.tk_prot hB)), fun _ => rfl⟩)
theorem Inv.grow {w' : World} (hi : Inv w0 g h n w) (hb : Below w.heap.size w w') : Inv w0 g h n w' :=
 hi.keepAll (hi.below.trans (hb.mono hi.below.size)) hb.size fun B hB => hb.block B (by
  rcases hB with ⟨o, u, hu⟩ | ⟨i, b, _, _, hB⟩
  ·exact hi.block_lt hu
  ·exact (hi.bxd i B hB).2)
theorem Inv.putInert (hi : Inv w0 g h n w) {r : Nat} (hr : lj w r) (hw : w0.heap.size ≤ r) (o : Obj) : Inv w0 g h n (w.putObj r o) := by
 obtain ⟨f1, f2⟩ := hi.inert hr
 refine hi.keepAll (hi.below.trans ⟨rfl, rfl, rfl, by simp, fun k hk => World.putObj_heap_other (by omega)⟩) (by simp) fun B hB => World.putObj_heap_other ?_
 rintro rfl
 rcases hB with ⟨o, u, hu⟩ | ⟨i, b, h1, h2, h3⟩
 ·rw [f1 o] at hu; cases hu
 ·exact f2 i b h1 h2 h3
theorem Inv.addTok (hi : Inv w0 g h n w) {r : Nat} (hr : lj w r) (hn : n r = 0) : Inv w0 g h (fun B => n B + if B = r then 1 else 0) w := by
 obtain ⟨f1, f2⟩ := hi.inert hr
 obtain ⟨bv, e1, e2, e3⟩ := hi.rest
 refine ⟨hi.gw, hi.gl, hi.below, hi.prot, hi.bxd, hi.inj, fun B hB => ?_, bv, e1, e2, fun B => ?_⟩
 ·by_cases hBr : B = r
  ·subst hBr
   obtain ⟨o, ho, _⟩ := hr
   exact ⟨(Array.getElem?_eq_some_iff.1 ho).1, f2⟩
  ·simp only [if_neg hBr] at hB; exact hi.tokp B (by omega)
 ·by_cases hBr : B = r
  ·subst hBr
   have : tkBs h bv B = 0 := by
    cases e : tkBs h bv B with
    | zero => rfl
    | succ m =>
     obtain ⟨j, c, ys, q1, q2, q3⟩ := je (h := h) (bv := bv) (B := B) (by omega)
     obtain ⟨o, u, hu⟩ := (e2 j c ys q1 q2).tk_prot q3
     rw [f1 o] at hu; cases hu
   simp only [if_true]; omega
  ·simp only [if_neg hBr]; have := e3 B; omega
theorem OVL.putInert (hi : Inv w0 g h n w) {r : Nat} (hr : lj w r) (o : Obj) {vs : List AV} {us : List Value} (hv : VL g vs us) (ho : OVL w0 g w vs us) : OVL w0 g (w.putObj r o) vs us := by
 obtain ⟨f1, _⟩ := hi.inert hr
 refine OVL.keep ho fun B hB => ⟨World.putObj_heap_other ?_, fun _ => rfl⟩
 rintro rfl
 obtain ⟨o, u, hu⟩ := dE hv hB
 rw [f1 o] at hu; cases hu
theorem qc {B o : Nat} {c : Array Value} {el : TypeId} {fr : Nat × Nat} {v : Value} (hh : w.heap[B]? = some (.cells c el fr)) : w.setCell ⟨B, o, none⟩ v = w.setRow B (c.setIfInBounds o v) := by
 unfold World.setCell World.setRow
 congr 1
 apply Array.ext'
 apply List.ext_getElem?
 intro i
 simp only [Array.getElem?_toList, Array.getElem?_modify]
 by_cases hi : B = i
 ·subst hi; simp [hh]
 ·simp [hi]
theorem Inv.cell1 (hi : Inv w0 g h n w) {id B : Nat} {v : AV} (hc : h[id]? = some (.cells [v])) (hB : g.bx id = some B) :
  ∃ u, w.cell? ⟨B, 0, none⟩ = some u ∧ VR g v u ∧ w.frozen? ⟨B, 0, none⟩ = false := by
 obtain ⟨vs, el, ex, b1, b2, b3, _⟩ := hi.boxOf hc hB
 simp only [VL] at b3
 obtain ⟨u, us, rfl, hu, rfl⟩ := b3
 exact ⟨u, by simp [World.cell?, b2], hu, by simp [World.frozen?, b2]⟩
theorem Inv.store1 (hi : Inv w0 g h n w) {id B : Nat} {v : AV} {s : ByteArray} (hc : h[id]? = some (.cells [v])) (hv : v.cl = true) (hB : g.bx id = some B) :
  Inv w0 g (h.set id (.cells [.str s])) n (w.setCell ⟨B, 0, none⟩ (.string s)) ∧ Keep n g w g (w.setCell ⟨B, 0, none⟩ (.string s)) ∧
   (∀ (cs : List AV) (vs : List Value), VL g cs vs → OVL w0 g w cs vs → OVL w0 g (w.setCell ⟨B, 0, none⟩ (.string s)) cs vs) := by
 obtain ⟨vs, el, ex, b1, b2, b3, b4, b5, b6⟩ := hi.boxOf hc hB
 have hlv := VL.length b3
 have b3' := b3
 simp only [VL] at b3'
 obtain ⟨u, us, rfl, hu, rfl⟩ := b3'
 have := hi.storeBox (n' := n) (cs' := [.str s]) (vs' := [.string s]) (ex := ex) hc hB (by simp) b2 ⟨_, _, rfl, rfl, rfl⟩ rfl ⟨trivial, trivial⟩ (fun b => by simp only [tkL, tk]; omega) hi.tokp
 rw [qc b2]
 have he : (([u] ++ ex).toArray.setIfInBounds 0 (Value.string s)) = ([Value.string s] ++ ex).toArray := by simp
 rw [he]
 exact this
theorem ik {r : List UInt8} {b : Option Bx} (hb : dF r b = true) : b = some (.cells [.str ⟨r.toArray⟩]) := by
 unfold dF at hb
 split at hb
 ·rename_i s; simp only [beq_iff_eq] at hb; subst hb; rfl
 ·cases hb
theorem tS {b : Option Bx} (hb : fa b = true) : b = some (.cells [.int .i64 0]) := by
 unfold fa at hb
 split at hb
 ·rename_i n; simp only [beq_iff_eq] at hb; subst hb; rfl
 ·cases hb
structure RSt (w0 : World) (g : Gh) (N : Nat → Nat) (w : World) (σ : List AV) (us : List Value) (L D : Nat) (rc : Loop) (g' : Gh) (h' : AH) (W : World) : Prop where
 le : g.le g'
 kp : Keep N g w g' W
 vl : VL g' σ us
 ov : OVL w0 g' W σ us
 inv : Inv w0 g' h' (fun B => N B + (if B = D then 1 else 0) + if B = L then 1 else 0) W
 hl : W.heap[L]? = some (.loop rc)
 hd : W.heap[D]? = some (.deferred (some []))
theorem RSt.put {N : Nat → Nat} {us : List Value} {L D : Nat} {rc : Loop} {g' : Gh} {h' : AH} {W : World} (s : RSt w0 g N w σ us L D rc g' h' W) (hL : w0.heap.size ≤ L) (hN : N L = 0) (hDL : D ≠ L) (rc' : Loop) : RSt w0 g N w σ us L D rc' g' h' (W.putObj L (.loop rc')) :=
 ⟨s.le, fun B hB => ⟨(World.putObj_heap_other (by rintro rfl; omega)).trans (s.kp B hB).1, (s.kp B hB).2⟩, s.vl, OVL.putInert s.inv (lj.loop s.hl) _ s.vl s.ov, s.inv.putInert (lj.loop s.hl) hL _,
  World.putObj_heap_same (Array.getElem?_eq_some_iff.1 s.hl).1, (World.putObj_heap_other hDL).trans s.hd⟩
theorem jh (c : UInt8) : ∀ l, ∃ x xs, au c l = (x, l) :: xs
 | [] => ⟨[], [], rfl⟩
 | b :: l => by
  obtain ⟨x, xs, h⟩ := jh c l
  simp only [au, h]
  split
  ·exact ⟨_, _, rfl⟩
  ·exact ⟨_, _, rfl⟩
theorem zP : ∀ {cs : List AV} (i : Nat) {v : AV}, clL cs = true → v.cl = true → clL (cs.set i v) = true
 | [], i, v, _, _ => rfl
 | c :: cs, 0, v, h, hv => by simp only [clL, Bool.and_eq_true, List.set_cons_zero] at *; exact ⟨hv, h.2⟩
 | c :: cs, i + 1, v, h, hv => by simp only [clL, Bool.and_eq_true, List.set_cons_succ] at *; exact ⟨h.1, zP i h.2 hv⟩
def Ex.jump : Ex → Option Code
 | .normal => none
 | .exit i => some (.exit i)
 | .ret => some .ret
abbrev mkD (D : Nat) : Deferred := { target := .collected D, args := #[] }
theorem tT {gop : Operand} {gd : Opd} {pt : Nat} {psA : Array Tmp} {asg body : Code} {ca cb : CC} {hs0 hs1 hs2 : HL} (hg : aB gop = some gd) (hp : psA.toList = [pt]) (hca : cA P asg hs0 = some (ca, hs1)) (hcb : cA P body hs1 = some (cb, hs2))
  (n1 : noRF asg = true) (n2 : noRF body = true) (d1 : iV asg = true) (d2 : iV body = true) (hs : SR ds w0 g n σ h a w) {Q : Ex → List AV → AH → Prop} (hk : W P (.rsplit gd pt ca cb) σ h Q) :
  (Code.rangeFunc gop psA asg body).wp P (fun e a' w' => ∃ x D g' h', e = Ex.out x ∧ Q x σ h' ∧ g.le g' ∧ Keep n g w g' w' ∧ w.heap.size ≤ D ∧ w'.heap[D]? = some (.deferred (some [])) ∧ SR (mkD D :: ds) w0 g' (fun B => n B + if B = D then 1 else 0) σ h' a' w') a w := by
 obtain ⟨k, pp, ps, pv, c, s, hev, hfn, hne1, hne2, hbp, hbs, hbv, hlen, hrs⟩ := hk
 obtain rfl := arr1 hp
 have hgv := ai hs.inv.gl hs.vl hg
 rw [hev] at hgv
 simp only [VR] at hgv
 obtain ⟨xs0, ys0, hgv, hx0, hy0, _, _⟩ := hgv
 have hx0' : xs0 = #[] := by simp only [VL] at hx0; exact Array.ext' hx0
 subst hx0'
 simp only [VL, VR] at hy0
 obtain ⟨_, _, hy1, ⟨bp, gp, rfl⟩, _, _, hy2, ⟨bs, gs, rfl⟩, _, _, hy3, ⟨bv, gv, rfl⟩, hy4⟩ := hy0
 have hys : ys0 = #[.pointer (some ⟨bp, 0, none⟩), .pointer (some ⟨bs, 0, none⟩), .pointer (some ⟨bv, 0, none⟩)] := by
  apply Array.ext'; rw [hy1, hy2, hy3, hy4]
 subst hys
 refine (wpIn_wide (n := 1)).1 (wpIn_rangeFunc ?_)
 intro fn _
 obtain ⟨rec, hrec⟩ : ∃ rec : LoopState → Option Code → Loop, rec = fun st pe => { state := st, pending := pe, fn, tmps := a.tmps, params := #[pt], assign := asg, body, defers := w.heap.size } := ⟨_, rfl⟩
 obtain ⟨W1, hW1⟩ : ∃ W1, (w.alloc (.deferred (some []))).alloc (.loop (rec .ready none)) = W1 := ⟨_, rfl⟩
 have hL1 : W1.heap[w.heap.size + 1]? = some (.loop (rec .ready none)) := by
  rw [← hW1]; have := World.alloc_heap_new (w.alloc (.deferred (some []))) (.loop (rec .ready none)); rwa [World.size_alloc] at this
 have hK1 : W1.heap[w.heap.size]? = some (.deferred (some [])) := by
  rw [← hW1]; exact (Below.heap_alloc _ _ _ (by simp)).trans (World.alloc_heap_new w _)
 have hb1 : Below w.heap.size w W1 := by
  rw [← hW1]; exact ((Below.refl _ w).alloc (Nat.le_refl _) _).alloc (by simp) _
 -- tokens
 obtain ⟨N, hN⟩ : ∃ N : Nat → Nat, N = fun B => n B + tkL σ a.tmps.toList B := ⟨_, rfl⟩
 have hiN : Inv w0 g h N w := hN ▸ hs.inv
 have hND : N w.heap.size = 0 := by
  cases e : N w.heap.size with
  | zero => rfl
  | succ m => have := hiN.n_lt (B := w.heap.size) (by omega); omega
 have hNL : N (w.heap.size + 1) = 0 := by
  cases e : N (w.heap.size + 1) with
  | zero => rfl
  | succ m => have := hiN.n_lt (B := w.heap.size + 1) (by omega); omega
 have hw0 := hs.inv.below.size
 have hkeep1 : ∀ B, B < w.heap.size → W1.heap[B]? = w.heap[B]? := hb1.block
 have st1 : RSt w0 g N w σ a.tmps.toList (w.heap.size + 1) w.heap.size (rec .ready none) g h W1 := by
  refine ⟨Gh.le.refl g, fun B hB => ⟨hkeep1 B (hiN.n_lt hB), fun _ => rfl⟩, hs.vl, OVL.keep hs.ov fun B hB => ⟨hkeep1 B (hiN.tkL_lt hs.vl hB), fun _ => rfl⟩, ?_, hL1, hK1⟩
  exact ((hiN.grow hb1).addTok (lj.deferred hK1) hND).addTok (lj.loop hL1) (by rw [hNL, if_neg (by omega)])
 refine ⟨w.heap.size + 1, [mkD w.heap.size], W1, { target := .fn (.func k) #[.pointer (some ⟨bp, 0, none⟩), .pointer (some ⟨bs, 0, none⟩), .pointer (some ⟨bv, 0, none⟩)], args := #[.func (.yield (w.heap.size + 1)) #[] #[]] }, W1, k,
  #[.func (.yield (w.heap.size + 1)) #[] #[]] ++ #[.pointer (some ⟨bp, 0, none⟩), .pointer (some ⟨bs, 0, none⟩), .pointer (some ⟨bv, 0, none⟩)], W1, ?_, ?_, fun _ _ => trivial, ?_, fun hd => by simp [Fence.wide] at hd, ?_⟩
 ·rw [← hW1, hrec]; exact run_enterLoop_outer _ _ _ _ _
 ·simp only [resolve, hgv]
  simp [go_sem]
 ·simp [invoke, go_sem, hfn.1]
 -- the iterator, over what is known between two rounds
 have bx : ∀ {g' : Gh}, g.le g' → g'.bx pp = some bp ∧ g'.bx ps = some bs ∧ g'.bx pv = some bv := fun hl => ⟨hl.bx _ _ gp, hl.bx _ _ gs, hl.bx _ _ gv⟩
 have hbne : ∀ {i j : Nat} {B C : Nat}, g.bx i = some B → g.bx j = some C → i ≠ j → B ≠ C := fun h1 h2 hij e => hij (hs.inv.inj _ _ _ h1 (e ▸ h2))
 have itc : ∀ {r : List UInt8} {rc : Loop} {g' : Gh} {h' : AH} {W : World}, RSt w0 g N w σ a.tmps.toList (w.heap.size + 1) w.heap.size rc g' h' W → dF [c] h'[pp]? = true → dF r h'[ps]? = true → fa h'[pv]? = true → ItCells W bp bs bv c r := by
  intro r rc g' h' W st e1 e2 e3
  obtain ⟨b1, b2, b3⟩ := bx st.le
  obtain ⟨u1, c1, v1, _⟩ := st.inv.cell1 (ik e1) b1
  obtain ⟨u2, c2, v2, f2⟩ := st.inv.cell1 (ik e2) b2
  obtain ⟨u3, c3, v3, _⟩ := st.inv.cell1 (tS e3) b3
  simp only [VR] at v1 v2 v3
  subst v1 v2 v3
  exact ⟨c1, c2, c3, f2⟩
 have hit := hfn.2 (w.heap.size + 1) bp bs bv c
  (fun xs W => ∃ g' h', RSt w0 g N w σ a.tmps.toList (w.heap.size + 1) w.heap.size (rec .ready none) g' h' W ∧ dF [c] h'[pp]? = true ∧ (∀ x r xs', xs = (x, r) :: xs' → dF r h'[ps]? = true) ∧ fa h'[pv]? = true ∧ WRs (M.W P ca) (M.W P cb) pt ps pp pv c σ xs h' (fun e h' => Q e σ h'))
  (fun xs W => ∃ g' h', RSt w0 g N w σ a.tmps.toList (w.heap.size + 1) w.heap.size (rec .ready none) g' h' W ∧ dF [c] h'[pp]? = true ∧ fa h'[pv]? = true ∧ ∀ x r xs', xs = (x, r) :: xs' → dF r h'[ps]? = true ∧ (match xs' with | [] => Q .normal σ h' | (_, r') :: _ => WRs (M.W P ca) (M.W P cb) pt ps pp pv c σ xs' (h'.set ps (.cells [.str ⟨r'.toArray⟩])) (fun e h' => Q e σ h')))
  (fun W => ∃ x g' h', x ≠ Ex.normal ∧ RSt w0 g N w σ a.tmps.toList (w.heap.size + 1) w.heap.size (rec .done x.jump) g' h' W ∧ Q x σ h')
  (hbne gs gp hne1) (hbne gs gv hne2) ?A ?B s W1 hlen ?S
 case S =>
  refine ⟨g, h, st1, hbp, fun x r xs' he => ?_, hbv, hrs⟩
  obtain ⟨y, ys, hy⟩ := jh c s
  rw [hy] at he
  simp only [List.cons.injEq, Prod.mk.injEq] at he
  rw [← he.1.2]; exact hbs
 case A =>
  rintro x r xs W ⟨g1, h1, st, e1, e2, e3, hW⟩
  have e2' := e2 x r xs rfl
  refine ⟨itc st e1 e2' e3, ?_⟩
  have hy := run_yield (P := P) (args := #[.string ⟨x.toArray⟩]) st.hl (by rw [hrec]; rfl)
  rw [hrec] at hy
  refine ⟨fn, _, asg, body, hy, roundIn_of_wpIn trivial ?_⟩
  obtain ⟨NL, hNLd⟩ : ∃ NL : Nat → Nat, NL = fun B => N B + (if B = w.heap.size then 1 else 0) + if B = w.heap.size + 1 then 1 else 0 := ⟨_, rfl⟩
  have hNLn : ∀ B, N B ≤ NL B := fun B => by rw [hNLd]; simp only; omega
  have hNLL : 0 < NL (w.heap.size + 1) := by rw [hNLd]; simp
  have hNLD : 0 < NL w.heap.size := by rw [hNLd]; simp
  have hinv : ∀ {g' : Gh} {h' : AH} {W : World} {rc : Loop}, RSt w0 g N w σ a.tmps.toList (w.heap.size + 1) w.heap.size rc g' h' W → Inv w0 g' h' NL W := fun s => by rw [hNLd]; exact s.inv
  have hclr : clL ((shL σ).set pt (.str ⟨x.toArray⟩)) = true := zP _ (j5 σ) rfl
  have htm : (Array.foldl (fun tmps (x : Tmp × Value) => tmps.setIfInBounds x.1 x.2) a.tmps (#[pt].zip #[Value.string ⟨x.toArray⟩])).toList = a.tmps.toList.set pt (.string ⟨x.toArray⟩) := by simp
  have hsr : SR [] w0 g1 NL ((shL σ).set pt (.str ⟨x.toArray⟩)) h1 { tmps := Array.foldl (fun tmps (x : Tmp × Value) => tmps.setIfInBounds x.1 x.2) a.tmps (#[pt].zip #[Value.string ⟨x.toArray⟩]), defers := [] } W :=
   ⟨by rw [htm]; exact VL.set (VL.shl st.vl) pt rfl, lM hclr, (hinv st).le fun B => by rw [mo hclr]; exact Nat.le_refl _, rfl⟩
  refine wpIn_mono (tR n1 d1 hca hsr hW) ?_
  rintro e a1 w1 ⟨x1, g2, σ2, h2, rfl, ⟨rfl, hb⟩, lg, kk, s1⟩
  have keepN : ∀ {g' g'' : Gh} {W W' : World}, Keep NL g' W g'' W' → Keep N g' W g'' W' := fun k => k.le hNLn
  have hl1 : w1.heap[w.heap.size + 1]? = some (.loop (rec .ready none)) := (kk _ hNLL).1.trans st.hl
  have stA : RSt w0 g N w σ a.tmps.toList (w.heap.size + 1) w.heap.size (rec .ready none) g2 h2 w1 :=
   ⟨st.le.trans lg, st.kp.trans (keepN kk), VL.mono lg _ _ st.vl, OVL.keep st.ov fun B hB => kk B (by
    have : tkL σ a.tmps.toList B ≤ N B := by rw [hN]; exact Nat.le_add_left _ _
    have := hNLn B; omega), by have := s1.inv.le (m := NL) (fun B => Nat.le_add_right _ _); rw [hNLd] at this; exact this, hl1, (kk _ hNLD).1.trans st.hd⟩
  refine ⟨_, run_beginRound hl1 (by rw [hrec]), ?_⟩
  have hrb : ({ rec .ready none with state := .busy } : Loop) = rec .busy none := by rw [hrec]
  rw [hrb]
  have stB := stA.put (by omega) hNL (by omega) (rec .busy none)
  have s2 : SR [] w0 g2 NL σ2 h2 a1 (w1.putObj (w.heap.size + 1) (.loop (rec .busy none))) :=
   ⟨s1.vl, OVL.putInert s1.inv (lj.loop hl1) _ s1.vl s1.ov, s1.inv.putInert (lj.loop hl1) (by omega) _, s1.df⟩
  refine wpIn_mono (tR n2 d2 hcb s2 hb) ?_
  rintro e a3 w3 ⟨x3, g3, σ3, h3, rfl, q, lg3, k3, s3⟩
  have hl3 : w3.heap[w.heap.size + 1]? = some (.loop (rec .busy none)) := (k3 _ hNLL).1.trans stB.hl
  have stC : RSt w0 g N w σ a.tmps.toList (w.heap.size + 1) w.heap.size (rec .busy none) g3 h3 w3 :=
   ⟨stB.le.trans lg3, stB.kp.trans (keepN k3), VL.mono lg3 _ _ stB.vl, OVL.keep stB.ov fun B hB => k3 B (by
    have : tkL σ a.tmps.toList B ≤ N B := by rw [hN]; exact Nat.le_add_left _ _
    have := hNLn B; omega), by have := s3.inv.le (m := NL) (fun B => Nat.le_add_right _ _); rw [hNLd] at this; exact this, hl3, (k3 _ hNLD).1.trans stB.hd⟩
  have her : ∀ jump : Option Code, ({ rec .busy none with state := if jump.isNone then .ready else .done, pending := jump } : Loop) = rec (if jump.isNone then .ready else .done) jump := fun j => by rw [hrec]
  cases x3 with
  | normal =>
   have hend := run_endRound (P := P) none hl3
   rw [her] at hend
   have stD := stC.put (by omega) hNL (by omega) (rec .ready none)
   refine ⟨_, _, hend, .inl ⟨rfl, g3, h3, stD, q.2.1, q.2.2.1, fun x' r' xs' he => ?_⟩⟩
   simp only [List.cons.injEq, Prod.mk.injEq] at he
   obtain ⟨⟨rfl, rfl⟩, rfl⟩ := he
   exact ⟨q.1, q.2.2.2⟩
  | ret =>
   have hend := run_endRound (P := P) (some .ret) hl3
   rw [her] at hend
   exact ⟨_, _, hend, .inr ⟨rfl, .ret, g3, h3, by simp, stC.put (by omega) hNL (by omega) (rec .done (some .ret)), q⟩⟩
  | exit id =>
   have hend := run_endRound (P := P) (some (.exit id)) hl3
   rw [her] at hend
   exact ⟨_, _, hend, .inr ⟨rfl, .exit id, g3, h3, by simp, stC.put (by omega) hNL (by omega) (rec .done (some (.exit id))), q⟩⟩
 case B =>
  rintro x r xs W ⟨g1, h1, st, e1, e3, hm⟩
  obtain ⟨e2, hm⟩ := hm x r xs rfl
  refine ⟨itc st e1 e2 e3, ?_⟩
  rintro x' r' xs' rfl
  obtain ⟨b1, b2, b3⟩ := bx st.le
  obtain ⟨q1, q2, q3⟩ := st.inv.store1 (s := ⟨r'.toArray⟩) (ik e2) rfl b2
  have hps : ps < h1.length := (List.getElem?_eq_some_iff.1 (ik e2)).1
  have hbsC : ∀ {B : Nat} {o : Obj}, W.heap[B]? = some o → o.isCells = false → B ≠ bs := by
   rintro B o ho hc rfl
   obtain ⟨u, hu, _⟩ := st.inv.cell1 (ik e2) b2
   simp only [World.cell?, ho] at hu
   cases o <;> simp [Obj.isCells] at hc hu
  have hheap : ∀ B, B ≠ bs → (W.setCell ⟨bs, 0, none⟩ (.string ⟨r'.toArray⟩)).heap[B]? = W.heap[B]? := fun B hB => by
   simp only [World.setCell]; rw [Array.getElem?_modify, if_neg (fun e => hB e.symm)]
  refine ⟨g1, h1.set ps (.cells [.str ⟨r'.toArray⟩]), ⟨st.le, st.kp.trans (q2.le fun B => by omega), st.vl, q3 _ _ st.vl st.ov, q1, (hheap _ (hbsC st.hl rfl)).trans st.hl, (hheap _ (hbsC st.hd rfl)).trans st.hd⟩, ?_, ?_, ?_, hm⟩
  ·rw [List.getElem?_set_ne hne1]; exact e1
  ·rintro x'' r'' xs'' he
   simp only [List.cons.injEq, Prod.mk.injEq] at he
   obtain ⟨⟨rfl, rfl⟩, rfl⟩ := he
   rw [List.getElem?_set_self hps]; simp [dF]
  ·rw [List.getElem?_set_ne hne2]; exact e3
 refine hit.mono ?_
 have fin : ∀ {rc : Loop} {g' : Gh} {h' : AH} {W : World} (x : Ex), RSt w0 g N w σ a.tmps.toList (w.heap.size + 1) w.heap.size rc g' h' W → Q x σ h' → ∀ rc', 
   ∃ x' D g' h', Ex.out x = Ex.out x' ∧ Q x' σ h' ∧ g.le g' ∧ Keep n g w g' (W.putObj (w.heap.size + 1) (.loop rc')) ∧ w.heap.size ≤ D ∧ (W.putObj (w.heap.size + 1) (.loop rc')).heap[D]? = some (.deferred (some [])) ∧
    SR (mkD D :: ds) w0 g' (fun B => n B + if B = D then 1 else 0) σ h' { a with defers := [mkD w.heap.size] ++ a.defers } (W.putObj (w.heap.size + 1) (.loop rc')) := by
  intro rc g' h' W x st q rc'
  have s2 := st.put (by omega) hNL (by omega) rc'
  refine ⟨x, w.heap.size, g', h', rfl, q, s2.le, s2.kp.le fun B => by rw [hN]; exact Nat.le_add_right _ _, Nat.le_refl _, s2.hd, s2.vl, s2.ov, s2.inv.le fun B => ?_, by simp [hs.df]⟩
  rw [hN]; simp only; omega
 rintro e W2 ⟨⟨v, rfl⟩, (⟨x, r, g2, h2, st, e1, e3, hm⟩ | ⟨x, g2, h2, hx, st, q⟩)⟩
 ·obtain ⟨_, hm⟩ := hm x r [] rfl
  have hend := run_endLoop (P := P) st.hl (by rw [hrec]; simp)
  rw [show (rec .ready none).pending = none from by rw [hrec]] at hend
  exact ⟨none, _, hend, fin .normal st hm _⟩
 ·have hend := run_endLoop (P := P) st.hl (by rw [hrec]; simp)
  rw [show (rec .done x.jump).pending = x.jump from by rw [hrec]] at hend
  cases x with
  | normal => exact absurd rfl hx
  | ret => exact ⟨some .ret, _, hend, wpIn_ret (fin .ret st q _)⟩
  | exit id => exact ⟨some (.exit id), _, hend, wpIn_exit (fin (.exit id) st q _)⟩
end
end Go.Proofs.YtibchilpaaiecaaGreatDoor.M
/- Code with ranges over functions, one behind the other; a function's contract out of it. -/
set_option linter.unusedVariables false
set_option linter.unusedSimpArgs false
namespace Go.Proofs.YtibchilpaaiecaaGreatDoor.M
open Go.RowKit
def MK (n0 : Nat → Nat) (w0 : World) (n : Nat → Nat) (ds : List Deferred) (w : World) : Prop :=
 ∀ d, d ∈ ds → ∃ D, d = mkD D ∧ n0 D = 0 ∧ 0 < n D ∧ w0.heap.size ≤ D ∧ w.heap[D]? = some (.deferred (some []))
section
variable {P : Program} {w0 w : World} {ds : List Deferred} {g : Gh} {h : AH} {n n0 : Nat → Nat} {σ : List AV} {a : Act}
def nz (n0 : Nat → Nat) (w0 : World) (g : Gh) (n : Nat → Nat) (w : World) (Q : Ex → List AV → AH → Prop) (e : Exit) (a' : Act) (w' : World) : Prop :=
 ∃ x ds' n' g' σ' h', e = Ex.out x ∧ Q x σ' h' ∧ g.le g' ∧ Keep n g w g' w' ∧ (∀ B, n B ≤ n' B) ∧ MK n0 w0 n' ds' w' ∧ ds'.Nodup ∧ SR ds' w0 g' n' σ' h' a' w'
theorem MK.keep {w' : World} {g' : Gh} (h : MK n0 w0 n ds w) (hk : Keep n g w g' w') : MK n0 w0 n ds w' := fun d hd =>
 let ⟨D, h1, h2, h3, h4, h5⟩ := h d hd; ⟨D, h1, h2, h3, h4, (hk D h3).1.trans h5⟩
theorem nz.of {Q : Ex → List AV → AH → Prop} {e : Exit} {a' : Act} {w' : World} (hm : MK n0 w0 n ds w) (hd : ds.Nodup) (hp : Post ds w0 g n w Q e a' w') : nz n0 w0 g n w Q e a' w' := by
 obtain ⟨x, g', σ', h', e1, q, lg, k, s⟩ := hp
 exact ⟨x, ds, n, g', σ', h', e1, q, lg, k, fun B => Nat.le_refl _, hm.keep k, hd, s⟩
theorem nz.trans {n' : Nat → Nat} {g' : Gh} {w' : World} {Q : Ex → List AV → AH → Prop} {e : Exit} {a'' : Act} {w'' : World} (hg : g.le g') (hk : Keep n g w g' w') (hn : ∀ B, n B ≤ n' B) (hp : nz n0 w0 g' n' w' Q e a'' w'') : nz n0 w0 g n w Q e a'' w'' := by
 obtain ⟨x, ds', n2, g2, σ2, h2, e1, q, l, k, hn2, m, d, s⟩ := hp
 exact ⟨x, ds', n2, g2, σ2, h2, e1, q, hg.trans l, hk.trans (k.le hn), fun B => Nat.le_trans (hn B) (hn2 B), m, d, s⟩
theorem oq : ∀ {c : Code} {hs0 hs1 : HL} {cc : CC} {Q : Ex → List AV → AH → Prop} {ds : List Deferred} {n : Nat → Nat} {g : Gh} {σ : List AV} {h : AH} {a : Act} {w : World}, spine c = true → cA P c hs0 = some (cc, hs1) → SR ds w0 g n σ h a w →
  MK n0 w0 n ds w → ds.Nodup → (∀ B, n0 B ≤ n B) → M.W P cc σ h Q → c.wp P (nz n0 w0 g n w Q) a w
 | .seq x y, hs0, hs1, cc, Q, ds, n, g, σ, h, a, w, hn, hc, hs, hm, hd, hle, hk => by
  simp only [cA] at hc
  split at hc <;> try (cases hc; done)
  rename_i a' hsa h1
  split at hc <;> cases hc
  rename_i b' h2
  simp only [spine, Bool.and_eq_true] at hn
  refine wp_seq (wp_mono (oq hn.1 h1 hs hm hd hle hk) ?_)
  rintro e a1 w1 ⟨x1, ds1, n1, g1, σ1, h1', rfl, q, lg, k, hn1, m1, d1, s⟩
  cases x1 with
  | normal => exact wp_mono (oq hn.2 h2 s m1 d1 (fun B => Nat.le_trans (hle B) (hn1 B)) q) fun e a2 w2 hp => hp.trans lg k hn1
  | exit i => exact ⟨.exit i, ds1, n1, g1, σ1, h1', rfl, q, lg, k, hn1, m1, d1, s⟩
  | ret => exact ⟨.ret, ds1, n1, g1, σ1, h1', rfl, q, lg, k, hn1, m1, d1, s⟩
 | .block id c, hs0, hs1, cc, Q, ds, n, g, σ, h, a, w, hn, hc, hs, hm, hd, hle, hk => by
  simp only [cA] at hc
  split at hc <;> cases hc
  rename_i c' h1
  refine wp_block (wp_mono (oq (by simpa only [spine] using hn) h1 hs hm hd hle hk) ?_)
  rintro e a1 w1 ⟨x1, ds1, n1, g1, σ1, h1', rfl, q, lg, k, hn1, m1, d1, s⟩
  cases x1 with
  | normal => exact ⟨.normal, ds1, n1, g1, σ1, h1', rfl, q, lg, k, hn1, m1, d1, s⟩
  | exit i =>
   simp only at q
   by_cases hi : i = id
   ·simp only [hi, if_true] at q
    simp only [Ex.out, Exit.inBlock, hi, if_true]
    exact ⟨.normal, ds1, n1, g1, σ1, h1', rfl, q, lg, k, hn1, m1, d1, s⟩
   ·simp only [hi, if_false] at q
    simp only [Ex.out, Exit.inBlock, hi, if_false]
    exact ⟨.exit i, ds1, n1, g1, σ1, h1', rfl, q, lg, k, hn1, m1, d1, s⟩
  | ret => exact ⟨.ret, ds1, n1, g1, σ1, h1', rfl, q, lg, k, hn1, m1, d1, s⟩
 | .rangeFunc gop psA asg body, hs0, hs1, cc, Q, ds, n, g, σ, h, a, w, hn, hc, hs, hm, hd, hle, hk => by
  simp only [spine, Bool.and_eq_true] at hn
  obtain ⟨⟨⟨n1, n2⟩, d1⟩, d2⟩ := hn
  simp only [cA] at hc
  split at hc <;> try (cases hc; done)
  rename_i gd pt ca hsa e1 e2 e3
  split at hc <;> cases hc
  rename_i cb e4
  refine wp_mono (tT e1 e2 e3 e4 n1 n2 d1 d2 hs hk) ?_
  rintro e a' w' ⟨x, D, g', h', e5, q, lg, k, hD, hD2, s⟩
  have hlt : ∀ B, 0 < n B → B < w.heap.size := fun B hB => hs.inv.n_lt (B := B) (by omega)
  have hn0 : n D = 0 := by
   cases e : n D with
   | zero => rfl
   | succ m => have := hlt D (by omega); omega
  have hmk := hm.keep k
  refine ⟨x, mkD D :: ds, _, g', σ, h', e5, q, lg, k, fun B => Nat.le_add_right _ _, fun d hd' => ?_, ?_, s⟩
  ·rcases List.mem_cons.1 hd' with rfl | hd'
   ·exact ⟨D, rfl, by have := hle D; omega, by simp, by have := hs.inv.below.size; omega, hD2⟩
   ·obtain ⟨D', q1, q2, q3, q4, q5⟩ := hmk d hd'
    exact ⟨D', q1, q2, by simp only; omega, q4, q5⟩
  ·refine List.nodup_cons.2 ⟨fun hin => ?_, hd⟩
   obtain ⟨D', q1, q2, q3, _⟩ := hm _ hin
   have : D = D' := by
    have := congrArg Deferred.target q1
    simpa using this
   subst this; omega
 | .skip, hs0, hs1, cc, Q, ds, n, g, σ, h, a, w, hn, hc, hs, hm, hd, hle, hk => wp_mono (eP (by simpa only [spine] using hn) hc hs hk) fun e a w hp => nz.of hm hd hp
 | .region _ _ _, hs0, hs1, cc, Q, ds, n, g, σ, h, a, w, hn, hc, hs, hm, hd, hle, hk => wp_mono (eP (by simpa only [spine] using hn) hc hs hk) fun e a w hp => nz.of hm hd hp
 | .cond _ _ _, hs0, hs1, cc, Q, ds, n, g, σ, h, a, w, hn, hc, hs, hm, hd, hle, hk => wp_mono (eP (by simpa only [spine] using hn) hc hs hk) fun e a w hp => nz.of hm hd hp
 | .loop _, hs0, hs1, cc, Q, ds, n, g, σ, h, a, w, hn, hc, hs, hm, hd, hle, hk => wp_mono (eP (by simpa only [spine] using hn) hc hs hk) fun e a w hp => nz.of hm hd hp
 | .exit _, hs0, hs1, cc, Q, ds, n, g, σ, h, a, w, hn, hc, hs, hm, hd, hle, hk => wp_mono (eP (by simpa only [spine] using hn) hc hs hk) fun e a w hp => nz.of hm hd hp
 | .ret, hs0, hs1, cc, Q, ds, n, g, σ, h, a, w, hn, hc, hs, hm, hd, hle, hk => wp_mono (eP (by simpa only [spine] using hn) hc hs hk) fun e a w hp => nz.of hm hd hp
 | .refuse _, hs0, hs1, cc, Q, ds, n, g, σ, h, a, w, hn, hc, hs, hm, hd, hle, hk => wp_mono (eP (by simpa only [spine] using hn) hc hs hk) fun e a w hp => nz.of hm hd hp
 | .scope _, hs0, hs1, cc, Q, ds, n, g, σ, h, a, w, hn, hc, hs, hm, hd, hle, hk => by simp [cA] at hc
 | .label _, hs0, hs1, cc, Q, ds, n, g, σ, h, a, w, hn, hc, hs, hm, hd, hle, hk => by simp [cA] at hc
 | .goto _, hs0, hs1, cc, Q, ds, n, g, σ, h, a, w, hn, hc, hs, hm, hd, hle, hk => by simp [cA] at hc
theorem zQ {fn : Func} {rs : List RV} {vs' : List AV} (hr : fn.results.toList.mapM (lO P) = some rs) (s : SR ds w0 g n σ h a w) (q : retV h rs σ = some vs') :
  ∃ u, (results fn a.tmps).run P w = .ok u w ∧ VR g (oneOf vs') u ∧ OV w0 g w (oneOf vs') u ∧ Inv w0 g h (fun B => n B + tk (oneOf vs') u B) w := by
 obtain ⟨us, r1, r2, r3, r4⟩ := mK hr s q
 have hm : (fn.results.mapM (tO a.tmps)).run P w = .ok us.toArray w := by
  rw [← Array.toArray_toList (xs := fn.results)]
  rw [List.mapM_toArray]
  simp [r1]
 have hr2 : (results fn a.tmps).run P w = .ok (if h : us.toArray.size = 1 then us.toArray[0] else .tuple us.toArray) w := by
  have : results fn a.tmps = (do let vs ← fn.results.mapM (tO a.tmps); pure (if h : vs.size = 1 then vs[0] else .tuple vs)) := by
   unfold results
   congr 1
  rw [this]
  simp only [Sem.run_bind, hm, Result.andThen_ok, Sem.run_pure]
 refine ⟨_, hr2, ?_⟩
 have hl := VL.length r2
 have fin : ∀ (v : AV) (u : Value), (∀ B, tk v u B = tkL vs' us B) → Inv w0 g h (fun B => n B + tk v u B) w := fun v u ht => r4.le fun B => by rw [ht B]; exact Nat.le_refl _
 match vs', us, hl, r2, r3, fin with
 | [], [], _, _, _, fin => exact ⟨⟨#[], rfl, rfl⟩, trivial, fin _ _ fun B => rfl⟩
 | [v], [u], _, r2, r3, fin =>
  simp only [VL] at r2
  obtain ⟨_, _, he, r2, _⟩ := r2
  cases he
  exact ⟨r2, r3.1, fin _ _ fun B => by simp [oneOf, tkL]⟩
 | v1 :: v2 :: vs', u1 :: u2 :: us, _, r2, r3, fin =>
  have hsz : ¬ ((u1 :: u2 :: us).toArray.size = 1) := by simp
  simp only [hsz, dif_neg, not_false_eq_true]
  exact ⟨⟨_, rfl, by simpa using r2⟩, by simpa [oneOf, OV] using r3, fin _ _ fun B => by simp [oneOf, tk]⟩
theorem pc {fn : Func} {rs : List RV} {vs' : List AV} {R : Ending → World → Prop} (hr : fn.results.toList.mapM (lO P) = some rs) (q : retV h rs σ = some vs')
  (hR : ∀ u w', VR g (oneOf vs') u → OV w0 g w' (oneOf vs') u → Inv w0 g h (fun B => n B + tk (oneOf vs') u B) w' → (∀ B, 0 < n0 B → w'.heap[B]? = w.heap[B]?) → R (.returned u) w') :
  ∀ (ds : List Deferred) (wx : World), MK n0 w0 n ds wx → ds.Nodup → (∀ B, 0 < n0 B → wx.heap[B]? = w.heap[B]?) → VL g σ a.tmps.toList → OVL w0 g wx σ a.tmps.toList → Inv w0 g h (fun B => n B + tkL σ a.tmps.toList B) wx → LeavesInM Fence.wide 0 P fn a.tmps R ds .returning wx
 | [], wx, hm, hd, hh, vl, ov, inv => by
  obtain ⟨u, h1, h2, h3, h4⟩ := zQ (ds := []) (a := { tmps := a.tmps, defers := [] }) hr ⟨vl, ov, inv, rfl⟩ q
  exact ⟨u, h1, hR u wx h2 h3 h4 hh⟩
 | d :: ds, wx, hm, hd, hh, vl, ov, inv => by
  obtain ⟨D, rfl, q1, q2, q3, q4⟩ := hm _ (List.mem_cons_self ..)
  rw [List.nodup_cons] at hd
  refine ⟨by simp, .inl ⟨D, _, rfl, run_takeDeferred q4, ?_⟩⟩
  refine pc hr q hR ds _ (fun d' hd' => ?_) hd.2 (fun B hB => (World.putObj_heap_other (by rintro rfl; omega)).trans (hh B hB)) vl (OVL.putInert inv (lj.deferred q4) _ vl ov) (inv.putInert (lj.deferred q4) q3 _)
  obtain ⟨D', rfl, p1, p2, p3, p4⟩ := hm d' (List.mem_cons_of_mem _ hd')
  exact ⟨D', rfl, p1, p2, p3, (World.putObj_heap_other (by rintro rfl; exact hd.1 hd')).trans p4⟩
theorem rU {f : FuncId} {fn : Func} {c : Code} {cc : CC} {rs : List RV} {args : List AV} {h : AH} {hs0 hs1 : HL} {K : AV → AH → Prop} (hf : P.funcs[f]? = some fn) (hb : fn.body = some c) (hn : spine c = true) (hc : cA P c hs0 = some (cc, hs1))
  (hr : fn.results.toList.mapM (lO P) = some rs)
  (hw : M.W P cc (args ++ List.replicate (fn.ntmps - args.length) aa) h (fun e σ h => e.fin ∧ ∃ vs, retV h rs σ = some vs ∧ K (oneOf vs) h)) : Spec P f args h K := by
 intro w0 g n w vs hv hcl hi
 refine (callsIn_wide (n := 0)).1 (callsIn_of_wp_marks hf hb trivial ?_)
 have hlen := VL.length hv
 have hs : SR [] w0 g n (args ++ List.replicate (fn.ntmps - args.length) aa) h { tmps := vs.toArray ++ Array.replicate (fn.ntmps - vs.toArray.size) undef, defers := [] } w := by
  have hcl2 : clL (args ++ List.replicate (fn.ntmps - args.length) aa) = true := by
   have : ∀ (xs ys : List AV), clL xs = true → clL ys = true → clL (xs ++ ys) = true := by
    intro xs ys h1 h2
    induction xs with
    | nil => exact h2
    | cons x xs ih => simp only [clL, Bool.and_eq_true, List.cons_append] at *; exact ⟨h1.1, ih h1.2⟩
   refine this _ _ hcl ?_
   generalize fn.ntmps - args.length = k
   induction k with
   | zero => rfl
   | succ k ih => simp only [List.replicate_succ, clL, ih]; rfl
  refine ⟨?_, lM hcl2, hi.le fun B => by rw [mo hcl2]; omega, rfl⟩
  simp only [Array.toList_append, Array.toList_replicate, List.size_toArray, hlen]
  exact VL.append hv (VL.replicate (od g) _)
 refine wpIn_wide.2 (wp_mono (oq (n0 := n) hn hc hs (fun d hd => by cases hd) List.nodup_nil (fun B => Nat.le_refl _) hw) ?_)
 rintro e a' w' ⟨x, ds', n', g', σ', h', rfl, ⟨q0, vs', q, r5⟩, lg, k, hle, hm, hd, s⟩
 have key : LeavesInM Fence.wide 0 P fn a'.tmps (fun e w'' => ∃ g'' r u h'', e = Ending.returned u ∧ K r h'' ∧ g.le g'' ∧ Keep n g w g'' w'' ∧ VR g'' r u ∧ OV w0 g'' w'' r u ∧ Inv w0 g'' h'' (fun B => n B + tk r u B) w'') a'.defers .returning w' := by
  rw [s.df]
  refine pc (w := w') hr q (fun u w'' h1 h2 h3 h4 => ?_) ds' w' hm hd (fun _ _ => rfl) s.vl s.ov s.inv
  exact ⟨g', oneOf vs', u, h', rfl, r5, lg, fun B hB => ⟨(h4 B hB).trans (k B hB).1, (k B hB).2⟩, h1, h2, h3.le fun B => by have := hle B; omega⟩
 cases x with
 | normal => exact key
 | exit i => exact q0.elim
 | ret => exact key
end
end Go.Proofs.YtibchilpaaiecaaGreatDoor.M
