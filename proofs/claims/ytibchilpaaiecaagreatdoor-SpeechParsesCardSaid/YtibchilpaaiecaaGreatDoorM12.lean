/- Operations, lists of operations: what is compiled speaks of the machine. -/
import Derived.Test.YtibchilpaaiecaaGreatDoorM11
set_option linter.unusedVariables false
set_option linter.unusedSimpArgs false
namespace Go.Proofs.YtibchilpaaiecaaGreatDoor.M
open Go.RowKit
theorem zI (σ : List AV) (o : Option Opd) : bndE (ag σ) o = bndA σ o := by cases o <;> rfl
section
variable {P : Program} {w0 w : World} {ds : List Deferred} {g : Gh} {h : AH} {n : Nat → Nat} {σ : List AV} {a : Act}
theorem yv {K : AV → Prop} {x : AV} {ux : Value} {xT t : TypeId} {d : TypeDesc} {z : Value} {za : AV} (ht : P.underlying t = some d) (hd : ¬ IW d = true)
  (hz : ∀ w : World, (zeroValue t).run P w = .ok z w) (hza : VR g za z) (hzc : za.cl = true) (hx : VR g x ux) {r : AV} (hr : vA t za x = some r) (hK : K r) :
  ∃ r z, (Instr.typeAssert ux xT t true).run P w = .ok z w ∧ VR g r z ∧ r.cl = true ∧ K r := by
 cases x <;> simp only [vA] at hr <;> try (cases hr; done)
 case nili =>
  simp only [VR] at hx; subst hx; cases hr
  refine ⟨_, .tuple #[z, .bool false], ?_, by simp only [VR]; exact ⟨_, rfl, by simp [VL, VR, hza]⟩, by simp [AV.cl, clL, hzc], hK⟩
  cases d <;> first | (simp [Instr.typeAssert, run_underlying ht, hz]; done) | (exact absurd rfl hd)
 case iface i v =>
  simp only [VR] at hx
  obtain ⟨u, rfl, hv, hcl⟩ := hx
  split at hr <;> cases hr
  ·rename_i he; subst he
   refine ⟨_, .tuple #[u, .bool true], ?_, by simp only [VR]; exact ⟨_, rfl, by simp [VL, VR, hv]⟩, by simp [AV.cl, clL, hcl], hK⟩
   cases d <;> first | (simp [Instr.typeAssert, run_underlying ht]; done) | (exact absurd rfl hd)
  ·rename_i he
   refine ⟨_, .tuple #[z, .bool false], ?_, by simp only [VR]; exact ⟨_, rfl, by simp [VL, VR, hza]⟩, by simp [AV.cl, clL, hzc], hK⟩
   cases d <;> first | (simp [Instr.typeAssert, run_underlying ht, he, hz]; done) | (exact absurd rfl hd)
theorem vE {v : AV} {b : Bool} (hv : VR g v (.bool b)) : v = .bool b ∨ v = .any := by
 cases v <;> simp only [VR] at hv
 case bool => cases hv; exact .inl rfl
 case any => exact .inr rfl
 case bs => obtain ⟨_, _, _, _, h, _⟩ := hv; cases h
 case box => obtain ⟨_, _, h⟩ := hv; cases h
 case ref => obtain ⟨_, _, h, _⟩ := hv; cases h
 case sl => rcases hv with ⟨_, _, _, h⟩ | ⟨_, _, _, h, _⟩ <;> cases h
 case agg => obtain ⟨_, h, _⟩ := hv; cases h
 case tup => obtain ⟨_, h, _⟩ := hv; cases h
 case iface => obtain ⟨_, h, _⟩ := hv; cases h
 case fn => obtain ⟨_, _, h, _⟩ := hv; cases h
 case mp => obtain ⟨_, _, h⟩ := hv; cases h
 all_goals cases hv
theorem CQ (hs : VL g σ a.tmps.toList) (s : Nat) : (∃ v u, σ[s]? = some v ∧ a.tmps[s]? = some u ∧ VR g v u) ∨ (σ[s]? = none ∧ a.tmps[s]? = none) := by
 cases e : σ[s]? with
 | none =>
  right
  have := VL.length hs
  rw [List.getElem?_eq_none_iff] at e
  refine ⟨rfl, ?_⟩
  rw [Array.getElem?_eq_none_iff]
  rw [Array.length_toList] at this; omega
 | some v =>
  left
  obtain ⟨u, hu, hv⟩ := VL.get hs e
  exact ⟨v, u, rfl, by simpa using hu, hv⟩
theorem SR.skip (hs : SR ds w0 g n σ h a w) (d : Option Nat) : SR ds w0 g n (putA σ d aa) h (a.put d undef) w := hs.put d (od g) rfl
theorem Inv.takeBox (hi : Inv w0 g h n w) {id off : Nat} {cs : List AV} {c : AV} (hc : h[id]? = some (.cells cs)) (ho : cs[off]? = some c) :
  ∃ B u, g.bx id = some B ∧ w.cell? ⟨B, off, none⟩ = some u ∧ VR g c u ∧ OV w0 g w c u ∧ Inv w0 g (h.set id (.cells (cs.set off c.sh))) (fun b => n b + tk c u b) w := by
 obtain ⟨bv, e1, e2, e3⟩ := hi.rest
 have hil : id < h.length := (List.getElem?_eq_some_iff.1 hc).1
 obtain ⟨vs, hvs⟩ : ∃ vs, bv[id]? = some vs := ⟨bv[id], by simp [e1, hil]⟩
 have hbx := e2 id _ vs hc hvs
 obtain ⟨B, el, ex, h1, h2, h3, h4, h5, h6, h7⟩ := hbx
 obtain ⟨u, hu, hvr⟩ := VL.get h4 ho
 have hself : vs.set off u = vs := by
  apply List.ext_getElem?
  intro i
  by_cases hi : i = off
  ·subst hi; rw [List.getElem?_set_self (List.getElem?_eq_some_iff.1 hu).1, hu]
  ·rw [List.getElem?_set_ne (by omega)]
 have hsv : bv.set id vs = bv := by
  apply List.ext_getElem?
  intro i
  by_cases hi : i = id
  ·subst hi; rw [List.getElem?_set_self (by omega), hvs]
  ·rw [List.getElem?_set_ne (by omega)]
 have htk : ∀ b, tkL (cs.set off c.sh) vs b + tk c u b = tkL cs vs b := fun b => by
  have := oM h4 (v' := c.sh) (u' := u) ho hu b
  rw [hself, oK (la c)] at this; omega
 have hcell : w.cell? ⟨B, off, none⟩ = some u := by
  have hlt := (List.getElem?_eq_some_iff.1 hu).1
  have : (vs ++ ex)[off]? = some u := by rw [List.getElem?_append_left hlt]; exact hu
  simp [World.cell?, h3, this]
 refine ⟨B, u, h1, hcell, hvr, OVL.get h6 ho hu, hi.gw, hi.gl, hi.below, hi.prot, fun i b hb => by simpa using hi.bxd i b hb, hi.inj, fun b hb => ?_, bv, by simp [e1], fun i x ys hx hy => ?_, fun b => ?_⟩
 ·have hkeep : b < w.heap.size ∧ ∀ i x, h[i]? = some x → x ≠ .dead → g.bx i ≠ some b := by
   by_cases hn : 0 < n b
   ·exact hi.tokp b hn
   ·exact hi.prot_ok ((e2 id _ vs hc hvs).tk_prot (B := b) (by have := y6 ho hu b; simp only [tkB]; omega))
  refine ⟨hkeep.1, fun i x hx hd => ?_⟩
  by_cases hji : i = id
  ·subst hji; exact hkeep.2 i _ hc (by simp)
  ·rw [List.getElem?_set_ne (by omega)] at hx; exact hkeep.2 i x hx hd
 ·by_cases hji : i = id
  ·subst hji
   rw [List.getElem?_set_self hil] at hx
   rw [hvs] at hy
   cases hx; cases hy
   refine ⟨B, el, ex, h1, h2, h3, ?_, ?_, ?_, h7⟩
   ·have := VL.set h4 off (VR.sh c u hvr); rwa [hself] at this
   ·refine iz fun x hx => ?_
    rcases List.mem_or_eq_of_mem_set hx with hx | rfl
    ·exact fw h5 x hx
    ·rw [ET]; exact hY h5 ho
   ·have := OVL.set h6 off (v := c.sh) (u := u) (oL (la c)); rwa [hself] at this
  ·rw [List.getElem?_set_ne (by omega)] at hx
   exact e2 i x ys hx hy
 ·have := rn e1 (b' := .cells (cs.set off c.sh)) (vs' := vs) hc hvs b
  rw [hsv] at this
  have := e3 b; have := htk b
  simp only [tkB] at *; omega
theorem vF {o : Oper} {t : TypeId} {x : Operand} {y : Opd} (hop : o.op = .load t x) (hm : tq P t none) (hy : aB x = some y) (hs : SR ds w0 g n σ h a w) {r : AV × AH} (hr : wB h (ag σ y) = some r)
  {K : List AV → AH → Prop} {Q : Exit → Act → World → Prop} (hK : K (putA σ o.dst r.1) r.2) : o.wp P a w (bI ds w0 g n w K) Q := by
 have hv := ai hs.inv.gl hs.vl hy
 generalize ag σ y = p at hv hr
 cases p <;> simp only [wB] at hr <;> try (cases hr; done)
 rename_i id off
 cases e : h[id]? with
 | none => rw [e] at hr; simp [nO] at hr
 | some b =>
  rw [e] at hr
  cases b <;> simp only [nO] at hr <;> try (cases hr; done)
  rename_i cs
  cases ho : cs[off]? with
  | none => rw [ho] at hr; cases hr
  | some c =>
   rw [ho] at hr
   cases hr
   simp only [VR] at hv
   obtain ⟨B, hB, hu⟩ := hv
   obtain ⟨B', u, k1, k2, k3, k4, k5⟩ := hs.inv.takeBox e ho
   rw [hB] at k1; cases k1
   refine fx (w' := w) (u := u) (g' := g) ?_ (Gh.le.refl g) (Keep.refl n g w) (hs.step o.dst hs.vl hs.ov k3 k4 k5) hK
   have := ia (P := P) (t := t) (a := ⟨B, off, none⟩) hm k2
   simp [execOp, hop, Instr.loadAt, hu, Instr.sureAddr, this]
theorem yw {o : Oper} {el : TypeId} {x : Operand} {y : Opd} (hop : o.op = .box el x) (hy : aB x = some y) (hs : SR ds w0 g n σ h a w) {v : AV} (hr : yr (ag σ y) = some v)
  {K : List AV → AH → Prop} {Q : Exit → Act → World → Prop} (hK : K (putA σ o.dst v) h) : o.wp P a w (bI ds w0 g n w K) Q := by
 have hv := ai hs.inv.gl hs.vl hy
 unfold yr at hr
 split at hr <;> cases hr
 rename_i ho
 have hc := VL.shl (kS hv ho)
 have hle : g.le (g.addProt w.heap.size 0 (a.eval x).cells.toList) := Gh.le_addProt fun p _ => hs.inv.prot_new (Nat.le_refl _) p
 refine j7 (w' := w.alloc (.cells (a.eval x).cells el)) (u := .pointer (some ⟨w.heap.size, 0, none⟩)) (vs := (a.eval x).cells.toList) hs ?_ rfl rfl rfl (by simp) (fun j hj => dJ w _ hj) (fun j v hj => by rw [World.cell?_alloc_new]; simpa using hj) ?_ rfl hK
 ·simp [execOp, hop, Instr.box, newVar, newRow]
 ·simp only [VR]
  refine ⟨w.heap.size, 0, rfl, PR.mk fun i c hi => ?_⟩
  obtain ⟨u, hu, hvr⟩ := VL.get hc hi
  refine ⟨u, by simpa using Gh.addProt_at (g := g) (B := w.heap.size) (o := 0) hu, VR.mono hle _ _ hvr, ?_, ?_⟩
  ·exact ns (j5 _) c (List.mem_of_getElem? hi)
  ·exact hY (by rw [ml]; exact ho) hi
theorem iB {o : Oper} {mv : Bool} {c : COp} (hc : oX P mv o.op = some c) {K : List AV → AH → Prop} {Q : Exit → Act → World → Prop} (hs : SR ds w0 g n σ h a w) (hk : Wop P c o.dst σ h K) : o.wp P a w (bI ds w0 g n w K) Q := by
  unfold oX at hc
  split at hc
  · -- move
    rename_i x hop
    split at hc <;> cases hc
    rename_i y hy
    cases mv
    · obtain ⟨r, hr, hk⟩ := hk
      simp only [xop, Bool.false_eq_true, if_false, Option.some.injEq] at hr; subst hr
      exact tx (.inl hop) hy hs (by rwa [aE] at hk)
    · obtain ⟨r, hr, hk⟩ := hk
      simp only [xop, if_true, Option.some.injEq] at hr; subst hr
      exact qB (.inr hop) hy hs (by rwa [dL, iT, aE, ← lV] at hk)
  · rename_i x hop
    split at hc <;> cases hc
    rename_i y hy
    cases mv
    · obtain ⟨r, hr, hk⟩ := hk
      simp only [xop, Bool.false_eq_true, if_false, Option.some.injEq] at hr; subst hr
      exact tx (.inr hop) hy hs (by rwa [aE] at hk)
    · obtain ⟨r, hr, hk⟩ := hk
      simp only [xop, if_true, Option.some.injEq] at hr; subst hr
      exact qB (.inl hop) hy hs (by rwa [dL, iT, aE, ← lV] at hk)
  · rename_i c x y hop
    split at hc <;> cases hc
    rename_i c' x' y' h1 h2 h3
    obtain ⟨v, hv, hk⟩ := bl hk
    exact yh hop h1 h2 h3 hs (FM (K := fun v => K (putA σ o.dst v) h) hv hk)
  · rename_i e hop
    split at hc <;> try (cases hc; done)
    rename_i i hi
    split at hc <;> try (cases hc; done)
    rename_i z hz
    split at hc <;> cases hc
    rename_i cs hcs
    obtain ⟨r, hr, hk⟩ := hk
    simp only [xop, Option.some.injEq] at hr; subst hr
    exact vd hop hi hz hcs hs (by rwa [aE] at hk)
  · rename_i e x hop
    split at hc <;> cases hc
    rename_i y hy
    cases mv
    rotate_left
    · simp only [if_true] at hk
      obtain ⟨v, hv, hk⟩ := bl hk
      exact yw hop hy hs hv hk
    simp only [Bool.false_eq_true, if_false] at hk
    obtain ⟨r, hr, hk⟩ := hk
    simp only [xop] at hr
    split at hr <;> cases hr
    rename_i ho
    rw [← lV] at ho
    exact zb hop hy hs ho (by rw [dL, iT, aE, ← lV] at hk; exact hk)
  · rename_i t x hop
    split at hc <;> cases hc
    rename_i m y hm hy
    by_cases hmv : (mv && m.isNone) = true
    · rw [if_pos hmv] at hk
      simp only [Bool.and_eq_true, Option.isNone_iff_eq_none] at hmv
      obtain ⟨_, rfl⟩ := hmv
      obtain ⟨r, hr, hk⟩ := hk
      simp only [xop, Option.map_eq_some_iff] at hr
      obtain ⟨r', hr', rfl⟩ := hr
      exact vF hop (ig hm) hy hs hr' (by rwa [aE] at hk)
    rw [if_neg hmv] at hk
    exact cO hs (s := Instr.loadAt t (a.eval x)) (by simp [execOp, hop]) (by
      obtain ⟨v, hv, hk⟩ := bl hk
      exact mu hs.inv (ig hm) (ai hs.inv.gl hs.vl hy) (zE (K := fun v => K (putA σ o.dst v) h) hv hk))
  · rename_i t x v hop
    split at hc <;> cases hc
    rename_i N x' v' h1 h2 h3
    obtain ⟨r, hr, hk⟩ := hk
    simp only [xop] at hr
    split at hr <;> try (cases hr; done)
    rename_i hd
    simp only [Option.map_eq_some_iff] at hr
    obtain ⟨hh, hv, rfl⟩ := hr
    refine ve hop hd h2 h3 h1 hs ?_
    unfold ze
    rw [lV]
    generalize ag σ x' = p at *
    cases p <;> simp only [lN] at hv <;> try (cases hv; done)
    rename_i id off
    simp only [Option.map_eq_some_iff] at hv
    obtain ⟨b, hb, rfl⟩ := hv
    cases e : h[id]? with
    | none => rw [e] at hb; cases hb
    | some bx =>
      rw [e] at hb
      cases bx <;> simp only [oV] at hb <;> try (cases hb; done)
      split at hb <;> cases hb
      rename_i hcc
      exact ⟨_, e, hcc.1, hcc.2.1, hcc.2.2, by rwa [iT] at hk⟩
  · rename_i x hop
    split at hc <;> cases hc
    rename_i y hy
    obtain ⟨v, hv, hk⟩ := bl hk
    exact vn hop hy hs (CL (K := fun v => K (putA σ o.dst v) h) hv hk)
  · rename_i op t x y u hop
    split at hc
    · cases hc; rename_i h1 h2 h3; obtain ⟨v, hv, hk⟩ := bl hk; exact EW hop h2 h3 hs (EV (K := fun v => K (putA σ o.dst v) h) hv hk)
    · cases hc; rename_i h1 h2 h3; obtain ⟨v, hv, hk⟩ := bl hk; exact EW hop h2 h3 hs (EV (K := fun v => K (putA σ o.dst v) h) hv hk)
    · rename_i fs x' y' h1 h2 h3
      split at hc <;> cases hc
      rename_i neg idx hneg hidx
      have hn : op = if neg then .neq else .eql := by cases op <;> simp [eqOp] at hneg <;> subst hneg <;> rfl
      obtain ⟨v, hv, hk⟩ := bl hk
      exact zw hop hn h2 h3 hidx hs hv hk
    · rename_i d h1 _ _ _; exact tJ hc h1 hop hs (by
        unfold wG at hc
        split at hc <;> try (cases hc; done)
        split at hc
        · split at hc <;> cases hc; exact hk
        · split at hc
          · split at hc <;> cases hc; exact hk
          · split at hc <;> try (cases hc; done)
            split at hc <;> cases hc; exact hk
        · split at hc <;> try (cases hc; done)
          split at hc
          · split at hc <;> cases hc; exact hk
          · split at hc <;> try (cases hc; done)
            split at hc <;> cases hc; exact hk)
    · cases hc
  · rename_i op t x hop
    split at hc <;> cases hc
    rename_i y hy
    exact cO hs (s := Op.unary op (a.eval x)) (by simp [execOp, hop]) (by
      obtain ⟨v, hv, hk⟩ := bl hk
      exact Cz (ai hs.inv.gl hs.vl hy) (Kw (K := fun v => K (putA σ o.dst v) h) hv hk))
  · rename_i s d x hop
    split at hc <;> try (cases hc; done)
    rename_i y hy
    have vy := ai hs.inv.gl hs.vl hy
    have he : (execOp a.eval o).run P w = ((convert s d (a.eval x)).run P w).andThen fun v w => .ok (.value v) w := by simp [execOp, hop]
    unfold wF at hc
    split at hc
    · rename_i d1 k h1 h2
      cases hc
      obtain ⟨v, hv, hk⟩ := bl hk
      exact cO hs he (ry h1 h2 vy (FN (K := fun v => K (putA σ o.dst v) h) hv hk))
    · rename_i e h1 h2
      split at hc <;> cases hc
      rename_i h3
      obtain ⟨v, hv, hk⟩ := bl hk
      exact cO hs he (p7 hs.inv h1 h3 h2 vy (CM (K := fun v => K (putA σ o.dst v) h) hv hk))
    · rename_i h1 h2
      cases hc
      obtain ⟨v, hv, hk⟩ := bl hk
      exact cO hs he (rz h1 h2 vy (FO (K := fun v => K (putA σ o.dst v) h) hv hk))
    · rename_i e h1 h2
      split at hc <;> cases hc
      rename_i h3
      obtain ⟨v, hv, hk⟩ := bl hk
      have hb : ∃ b, ag σ y = .str b ∧ v = .sl .sh (b.data.toList.map encB) := by
        generalize ag σ y = p at *
        cases p <;> simp only [mA] at hv <;> cases hv
        exact ⟨_, rfl, rfl⟩
      obtain ⟨b, hb, rfl⟩ := hb
      exact p8 hop hy h1 h2 h3 hs hb hk
    · rename_i e1 e h1 h2
      split at hc <;> try (cases hc; done)
      rename_i hsd
      subst hsd
      split at hc <;> cases hc
      rename_i h3
      obtain ⟨r, hr, hk⟩ := hk
      simp only [xop, Option.map_eq_some_iff] at hr
      obtain ⟨v, hv, rfl⟩ := hr
      refine vt hop hy h2 h3 hs ?_
      unfold zl
      rw [lV]
      rw [dL, iT, aE] at hk
      generalize ag σ y = p at *
      cases p <;> simp only [wD] at hv <;> try (cases hv; done)
      rename_i m es
      cases m <;> simp only [wD] at hv <;> cases hv
      exact hk
    · cases hc
  · rename_i s x f hop
    split at hc <;> try (cases hc; done)
    rename_i fs y h1 h2
    split at hc <;> try (cases hc; done)
    rename_i fd h3
    split at hc <;> cases hc
    rename_i k h4
    exact cO hs (s := Instr.fieldAt s (a.eval x) f) (by simp [execOp, hop]) (by
      obtain ⟨v, hv, hk⟩ := bl hk
      exact va h1 h3 h4 (by omega) (ai hs.inv.gl hs.vl h2) (CN (K := fun v => K (putA σ o.dst v) h) hv hk))
  · rename_i s x f hop
    split at hc <;> try (cases hc; done)
    rename_i fs y h1 h2
    split at hc <;> try (cases hc; done)
    rename_i fd h3
    split at hc <;> cases hc
    rename_i m h4
    exact cO hs (s := Instr.field s (a.eval x) f) (by simp [execOp, hop]) (by
      obtain ⟨v, hv, hk⟩ := bl hk
      exact vb h1 h3 (ig h4) (ai hs.inv.gl hs.vl h2) (wJ (K := fun v => K (putA σ o.dst v) h) hv hk))
  · rename_i t x i hop
    split at hc <;> try (cases hc; done)
    · rename_i e x' i' h1 h2 h3
      split at hc <;> cases hc
      rename_i S h4
      obtain ⟨v, hv, hk⟩ := bl hk
      have vx := ai (a := a) hs.inv.gl hs.vl h2
      have vi := ai (a := a) hs.inv.gl hs.vl h3
      generalize ag σ x' = p at *
      generalize ag σ i' = q at *
      refine cO hs (s := Instr.indexAt t (a.eval x) (a.eval i)) (by simp [execOp, hop]) ?_
      cases p <;> cases q <;> simp only [mB] at hv <;> try (cases hv; done)
      · rename_i m es k j
        split at hv <;> try (cases hv; done)
        rename_i hcc
        refine u6 (K := fun v => K (putA σ o.dst v) h) h1 h4 vx vi ⟨rfl, hcc.2, ?_⟩
        cases e2 : es[j.toNat]? with
        | none => rw [e2] at hv; cases hv
        | some ee =>
          rw [e2] at hv
          simp only [elemV] at hv
          split at hv <;> cases hv
          rename_i hl
          exact ⟨ee, rfl, hl, hk⟩
      · rename_i id off len cap k j
        split at hv <;> cases hv
        rename_i hcc
        exact CA (K := fun v => K (putA σ o.dst v) h) h1 h4 vx vi hcc.2.1 hcc.2.2 hk
    · rename_i nn e x' i' h1 h2 h3
      split at hc <;> cases hc
      rename_i S h4
      obtain ⟨v, hv, hk⟩ := bl hk
      have vx := ai (a := a) hs.inv.gl hs.vl h2
      have vi := ai (a := a) hs.inv.gl hs.vl h3
      generalize ag σ x' = p at *
      generalize ag σ i' = q at *
      refine cO hs (s := Instr.indexAt t (a.eval x) (a.eval i)) (by simp [execOp, hop]) (u7 (K := fun v => K (putA σ o.dst v) h) h1 h4 vx vi ?_)
      cases p <;> cases q <;> simp only [mB] at hv <;> try (cases hv; done)
      all_goals first
        | (simp at hv; done)
        | (split at hv <;> cases hv
           rename_i hcc
           first | exact ⟨hcc.1, hcc.2, hk⟩ | (simp at hcc; done))
  · rename_i t x i hop
    split at hc <;> try (cases hc; done)
    · rename_i x' i' h1 h2 h3
      cases hc
      obtain ⟨v, hv, hk⟩ := bl hk
      have vx := ai (a := a) hs.inv.gl hs.vl h2
      have vi := ai (a := a) hs.inv.gl hs.vl h3
      generalize ag σ x' = p at *
      generalize ag σ i' = q at *
      cases p <;> cases q <;> simp only [zy] at hv <;> try (cases hv; done)
      rename_i s k j
      split at hv <;> try (cases hv; done)
      rename_i h0
      cases e : s[j.toNat]? with
      | none => rw [e] at hv; cases hv
      | some b =>
        rw [e] at hv; cases hv
        exact cO hs (s := Instr.index t (a.eval x) (a.eval i)) (by simp [execOp, hop]) (FC (K := fun v => K (putA σ o.dst v) h) (S := 0) (N := 0) h1 vx vi ⟨h0, b, e, hk⟩ ⟨s, rfl⟩)
    · rename_i n e x' i' h1 h2 h3
      split at hc <;> cases hc
      rename_i S m h4 h5
      obtain ⟨v, hv, hk⟩ := bl hk
      have vx := ai (a := a) hs.inv.gl hs.vl h2
      have vi := ai (a := a) hs.inv.gl hs.vl h3
      generalize ag σ x' = p at *
      generalize ag σ i' = q at *
      cases p <;> cases q <;> simp only [IV] at hv <;> try (cases hv; done)
      rename_i cs k j
      split at hv <;> try (cases hv; done)
      rename_i h0
      exact cO hs (s := Instr.index t (a.eval x) (a.eval i)) (by simp [execOp, hop]) (FD (K := fun v => K (putA σ o.dst v) h) h1 (ig h5) h4 vx vi h0.1 h0.2 (wJ (K := fun v => K (putA σ o.dst v) h) hv hk))
  · rename_i t i hop
    cases hc
    obtain ⟨r, hr, hk⟩ := hk
    simp only [xop, Option.map_eq_some_iff] at hr
    obtain ⟨u, hu, rfl⟩ := hr
    refine rB hop hs ?_
    unfold rA
    simp only [ag] at hu
    have htl : ∀ cs, σ.getD t aa = .tup cs → cs ≠ [] → t < σ.length := by
      intro cs hcs hne
      rcases Nat.lt_or_ge t σ.length with hlt | hge
      · exact hlt
      · rw [List.getD, List.getElem?_eq_none hge] at hcs
        simp only [Option.getD_none, aa, AV.tup.injEq] at hcs
        exact absurd hcs.symm hne
    generalize σ.getD t aa = p at *
    cases p <;> simp only [oe] at hu <;> try (cases hu; done)
    rename_i cs
    cases e : cs[i]? with
    | none => rw [e] at hu; cases hu
    | some c =>
      rw [e] at hu; cases hu
      refine ⟨htl cs rfl (by rintro rfl; simp at e), c, e, ?_⟩
      simp only [putL, aE] at hk; exact hk
  · rename_i t x hop
    split at hc <;> cases hc
    rename_i d y hne h1 h2
    obtain ⟨r, hr, hk⟩ := hk
    simp only [xop, Option.some.injEq] at hr; subst hr
    exact yi hop h2 h1 (fun ms hd => hne ms (by rw [hd])) hs (by rwa [aE] at hk)
  · rename_i f x y hop
    split at hc <;> cases hc
    rename_i l1 l2 h1 h2
    obtain ⟨r, hr, hk⟩ := hk
    simp only [xop, Option.some.injEq] at hr; subst hr
    exact yj hop h1 h2 hs (by rwa [aE] at hk)
  · rename_i t x lo hi mx hop
    split at hc <;> try (cases hc; done)
    · rename_i x' lo' hi' h1 h2 h3 h4 h5
      cases hc
      obtain ⟨v, hv, hk⟩ := bl hk
      have vx := ai (a := a) hs.inv.gl hs.vl h2
      have hmx : mx = none := by
        cases mx with
        | none => rfl
        | some z => simp only [oW] at h5; split at h5 <;> cases h5
      subst hmx
      simp only [zI] at hv
      generalize ag σ x' = p at *
      cases e1 : bndA σ lo' with
      | none => rw [e1] at hv; cases p <;> simp [cV] at hv
      | some l =>
        cases e2 : bndA σ hi' with
        | none => rw [e1, e2] at hv; cases p <;> simp [cV] at hv
        | some r =>
          rw [e1, e2] at hv
          have e3 : bndA σ none = some none := rfl
          rw [e3] at hv
          cases p <;> simp only [cV] at hv <;> try (cases hv; done)
          rename_i s
          split at hv <;> cases hv
          rename_i hcc
          simp only [VR] at vx
          exact cO hs (s := Instr.sliceAt t (a.eval x) (lo.map a.eval) (hi.map a.eval) none) (by simp [execOp, hop])
            (by rw [vx]; exact zg (K := fun v => K (putA σ o.dst v) h) (S := 0) h1 (tI hs.inv.gl hs.vl h3 e1) (tI hs.inv.gl hs.vl h4 e2) ⟨rfl, hcc.2.1, hcc.2.2.1, hcc.2.2.2, hk⟩)
    · rename_i e x' lo' hi' mx' h1 h2 h3 h4 h5
      split at hc <;> cases hc
      rename_i S h6
      obtain ⟨v, hv, hk⟩ := bl hk
      have vx := ai (a := a) hs.inv.gl hs.vl h2
      simp only [zI] at hv
      generalize ag σ x' = p at *
      cases e1 : bndA σ lo' with
      | none => rw [e1] at hv; cases p <;> simp [cV] at hv
      | some l =>
        cases e2 : bndA σ hi' with
        | none => rw [e1, e2] at hv; cases p <;> simp [cV] at hv
        | some r =>
          cases e3 : bndA σ mx' with
          | none => rw [e1, e2, e3] at hv; cases p <;> cases r <;> simp [cV] at hv
          | some M =>
            rw [e1, e2, e3] at hv
            by_cases hbs : ∃ id off len cap, p = .bs id off len cap
            · obtain ⟨id, off, len, cap, rfl⟩ := hbs
              cases M with
              | some M => cases r <;> simp [cV] at hv
              | none =>
                simp only [cV] at hv
                split at hv <;> cases hv
                rename_i hcc
                have hmx : mx = none := by
                  have := tI (a := a) hs.inv.gl hs.vl h5 e3
                  cases mx with
                  | none => rfl
                  | some z => obtain ⟨_, _, _, q⟩ := this; cases q
                subst hmx
                exact cO hs (s := Instr.sliceAt t (a.eval x) (lo.map a.eval) (hi.map a.eval) none) (by simp [execOp, hop])
                  (CB (K := fun v => K (putA σ o.dst v) h) h1 h6 (tI hs.inv.gl hs.vl h3 e1) (tI hs.inv.gl hs.vl h4 e2) vx hcc hk)
            have key : vf S l r M (fun v => K (putA σ o.dst v) h) p ∧ ∃ m es, p = .sl m es := by
              cases p <;> try (first | (cases M <;> cases r <;> simp [cV] at hv; done) | exact absurd ⟨_, _, _, _, rfl⟩ hbs)
              rename_i m es
              refine ⟨?_, _, _, rfl⟩
              cases M with
              | none =>
                simp only [cV] at hv
                split at hv <;> cases hv
                rename_i hcc
                exact ⟨hcc.1, hcc.2.1, hcc.2.2.1, rI vx hcc.2.2.2, hk⟩
              | some M =>
                cases r with
                | none => simp [cV] at hv
                | some r =>
                  simp only [cV] at hv
                  split at hv <;> cases hv
                  rename_i hcc
                  exact ⟨hcc.1, hcc.2.1, hcc.2.2.1, rI vx hcc.2.2.2.1, rfl, hcc.2.2.2.2.1, hcc.2.2.2.2.2, hk⟩
            obtain ⟨key, m, es, rfl⟩ := key
            exact cO hs (s := Instr.sliceAt t (a.eval x) (lo.map a.eval) (hi.map a.eval) (mx.map a.eval)) (by simp [execOp, hop])
              (vg h1 h6 (tI hs.inv.gl hs.vl h3 e1) (tI hs.inv.gl hs.vl h4 e2) (tI hs.inv.gl hs.vl h5 e3) vx key ⟨m, es, rfl⟩)
  · rename_i t parts hop
    split at hc <;> cases hc
    rename_i z ps h1
    obtain ⟨v, hv, hk⟩ := bl hk
    exact vp hop h1 hs (CP (K := fun v => K (putA σ o.dst v) h) hv hk)
  · rename_i t len parts hop
    split at hc <;> cases hc
    rename_i S xs h1
    obtain ⟨v, hv, hk⟩ := bl hk
    simp only [oU] at hv
    split at hv <;> cases hv
    rename_i hcc
    refine tC hop h1 hs (fun ht hn => hcc.1 ht ?_) (wM hcc.2) hk
    rw [hn]; rfl
  · rename_i t nn c hop
    split at hc <;> try (cases hc; done)
    rename_i e n' c' h1 h2 h3
    split at hc <;> try (cases hc; done)
    rename_i i hi
    split at hc <;> try (cases hc; done)
    rename_i z hz
    split at hc <;> try (cases hc; done)
    rename_i cs hcs
    split at hc <;> cases hc
    rename_i hsz
    obtain ⟨r, hr, hk⟩ := hk
    simp only [xop, Option.map_eq_some_iff] at hr
    obtain ⟨r', hv, rfl⟩ := hr
    exact rL hop h1 h2 h3 hi hz hcs hsz hs hv (by rwa [aE] at hk)
  · rename_i t hop
    cases hc
    obtain ⟨r, hr, hk⟩ := hk
    simp only [xop, Option.some.injEq] at hr; subst hr
    exact vz hop hs (by rwa [aE] at hk)
  · rename_i t x i ok hop
    split at hc <;> try (cases hc; done)
    rename_i kt et x' i' h1 h2 h3
    split at hc <;> try (cases hc; done)
    rename_i d inf hd hi
    split at hc <;> try (cases hc; done)
    rename_i z hz
    split at hc <;> cases hc
    rename_i za hza
    obtain ⟨v, hv, hk⟩ := bl hk
    obtain ⟨z1, z2⟩ := wH (g := g) hza
    exact cO hs (s := Instr.lookup t (a.eval x) (a.eval i) ok) (by simp [execOp, hop]) (yn (K := fun v => K (putA σ o.dst v) h) hs.inv h1 hd (fun w => by simp [zeroValue, typeInfo, hi, hz]) z1 z2 (ai (a := a) hs.inv.gl hs.vl h2) (ai (a := a) hs.inv.gl hs.vl h3) hv hk)
  · rename_i t m k x hop
    split at hc <;> try (cases hc; done)
    rename_i kt et m' k' x' h1 h2 h3 h4
    split at hc <;> cases hc
    rename_i d hd
    obtain ⟨r, hr, hk⟩ := hk
    simp only [xop] at hr
    split at hr <;> try (cases hr; done)
    rename_i hdst
    simp only [Option.map_eq_some_iff] at hr
    obtain ⟨h', hv, rfl⟩ := hr
    exact yp hop hdst h1 hd h2 h3 h4 hs hv hk
  · rename_i x xT t hop
    split at hc <;> try (cases hc; done)
    rename_i d h1
    split at hc <;> try (cases hc; done)
    rename_i hd
    split at hc <;> try (cases hc; done)
    rename_i inf y hi h2
    split at hc <;> try (cases hc; done)
    rename_i z hz
    split at hc <;> cases hc
    rename_i za hza
    obtain ⟨v, hv, hk⟩ := bl hk
    obtain ⟨z1, z2⟩ := wH (g := g) hza
    exact cO hs (s := Instr.typeAssert (a.eval x) xT t true) (by simp [execOp, hop]) (yv (K := fun v => K (putA σ o.dst v) h) h1 hd (fun w => by simp [zeroValue, typeInfo, hi, hz]) z1 z2 (ai (a := a) hs.inv.gl hs.vl h2) hv hk)
  · rename_i c hop
    exact qb hc hop hs hk
  · cases hc
def gV (σ : List AV) : Option (Nat × Bool) → Option Bool
 | none => some true
 | some (s, want) => match σ[s]? with | some (.bool b) => some (b == want) | some .any => none | _ => some false
def aW (o : CO) (σ : List AV) : COp := match gV σ o.guard with | some true => o.op | some false => .mov (.con aa) | none => .stuck
def Wg (P : Program) (o : CO) (σ : List AV) (h : AH) (K : List AV → AH → Prop) : Prop := Wop P (aW o σ) o.dst σ h K
def Wops (P : Program) : List CO → List AV → AH → (List AV → AH → Prop) → Prop
 | [], σ, h, K => K σ h
 | o :: rest, σ, h, K => Wg P o σ h (fun σ' h' => Wops P rest σ' h' K)
theorem fQ {ops : Array Oper} {o : Oper} {gd : Option (Nat × Bool)} (hs : VL g σ a.tmps.toList) (h2 : iS ops o.guard = some gd) (hn : gV σ gd ≠ none) :
  (gV σ gd = some true ∧ Region.wanted o (yielded ops a.tmps) = true) ∨ (gV σ gd = some false ∧ Region.wanted o (yielded ops a.tmps) = false) := by
 cases hgd : o.guard with
 | none =>
  simp only [hgd, iS, Option.some.injEq] at h2; subst h2
  exact .inl ⟨rfl, by simp [Region.wanted, hgd]⟩
 | some jw =>
  obtain ⟨j, want⟩ := jw
  simp only [hgd, iS] at h2
  split at h2 <;> cases h2
  rename_i s hj
  simp only [gV] at hn ⊢
  rcases CQ hs s with ⟨v, u, q1, q2, q3⟩ | ⟨q1, q2⟩
  ·rw [q1] at hn ⊢
   have hy : yielded ops a.tmps j = match u with | .bool b => some b | _ => none := by
    simp only [yielded, hj, Option.bind_some, q2]
    cases u <;> rfl
   cases v
   case bool b =>
    simp only [VR] at q3; subst q3
    simp only at hy ⊢
    have hwant : Region.wanted o (yielded ops a.tmps) = decide (b = want) := by
     simp only [Region.wanted, hgd, hy]
     cases b <;> cases want <;> rfl
    rw [hwant]
    cases b <;> cases want <;> simp
   case any => exact absurd rfl hn
   all_goals
    have hu : ∀ b, u ≠ .bool b := fun b hb => by subst hb; rcases vE q3 with h | h <;> cases h
    have hy' : yielded ops a.tmps j = none := by rw [hy]; cases u <;> first | rfl | exact absurd rfl (hu _)
    exact .inr ⟨rfl, by simp [Region.wanted, hgd, hy']⟩
  ·rw [q1]
   have hy' : yielded ops a.tmps j = none := by simp only [yielded, hj, Option.bind_some, q2]
   exact .inr ⟨rfl, by simp [Region.wanted, hgd, hy']⟩
theorem rM {o : CO} {K : List AV → AH → Prop} (hk : Wg P o σ h K) : (gV σ o.guard = some true ∧ Wop P o.op o.dst σ h K) ∨ (gV σ o.guard = some false ∧ K (putA σ o.dst aa) h) := by
 unfold Wg aW at hk
 cases e : gV σ o.guard with
 | none => rw [e] at hk; obtain ⟨r, hr, _⟩ := hk; simp [xop] at hr
 | some b =>
  rw [e] at hk
  cases b
  ·right
   obtain ⟨r, hr, hk⟩ := hk
   simp only [xop, Option.some.injEq] at hr; subst hr
   exact ⟨rfl, by rwa [aE] at hk⟩
  ·exact .inl ⟨rfl, hk⟩
theorem nw {ops : Array Oper} {mvs : List Nat} {Q : Exit → Act → World → Prop} {K : List AV → AH → Prop} : ∀ {l : List Oper} {k : Nat} {cos : List CO} {g : Gh} {σ : List AV} {h : AH} {a : Act} {w : World}, eY P ops mvs k l = some cos → SR ds w0 g n σ h a w → Wops P cos σ h K →
  (∀ g' σ' h' a' w', K σ' h' → g.le g' → Keep n g w g' w' → SR ds w0 g' n σ' h' a' w' → Q .normal a' w') → wpList P ops Q l a w
 | [], k, cos, g, σ, h, a, w, hc, hs, hk, hQ => by
  simp only [eY, Option.some.injEq] at hc; subst hc
  exact hQ g σ h a w hk (Gh.le.refl g) (Keep.refl _ _ _) hs
 | o :: l, k, cos, g, σ, h, a, w, hc, hs, hk, hQ => by
  simp only [eY] at hc
  split at hc <;> cases hc
  rename_i op gd cos' h1 h2 h3
  simp only [Wops] at hk
  have run : Wop P op o.dst σ h (fun σ' h' => Wops P cos' σ' h' K) → o.wp P a w (wpList P ops Q l) Q := by
   intro hw
   have := iB (Q := Q) h1 hs hw
   unfold Oper.wp at this ⊢
   -- the continuation, weakened
   have mono : ∀ r, o.upon P a (bI ds w0 g n w fun σ' h' => Wops P cos' σ' h' K) Q r → o.upon P a (wpList P ops Q l) Q r := by
    have hnext : ∀ a' w', bI ds w0 g n w (fun σ' h' => Wops P cos' σ' h' K) a' w' → wpList P ops Q l a' w' := by
     rintro a' w' ⟨g', σ', h', q, lg, k, s⟩
     exact nw h3 s q fun g2 σ2 h2 a2 w2 q2 l2 k2 s2 => hQ g2 σ2 h2 a2 w2 q2 (lg.trans l2) (k.trans k2) s2
    intro r hr
    cases r with
    | ok x w' =>
     cases x <;> first | exact hnext _ _ hr | skip
     ·exact Calls.mono hr fun e w'' he => by cases e <;> first | exact hnext _ _ he | exact he
     all_goals first | exact hr | (exact Rows.mono hr fun v w'' he => hnext _ _ he) | (exact hr.elim)
    | halt x w' => cases x <;> exact hr
   exact mono _ this
  have skp : Wops P cos' (putA σ o.dst aa) h K → wpList P ops Q l (a.put o.dst undef) w := fun hw => nw h3 (hs.skip o.dst) hw hQ
  simp only [wpList]
  rcases rM hk with ⟨q1, q2⟩ | ⟨q1, q2⟩
  ·have hwant := (fQ (o := o) hs.vl h2 (by simp only at q1; rw [q1]; simp)).resolve_right (fun x => by simp only at q1; rw [q1] at x; simp at x)
   rw [if_pos hwant.2]
   exact .inl (run q2)
  ·have hwant := (fQ (o := o) hs.vl h2 (by simp only at q1; rw [q1]; simp)).resolve_left (fun x => by simp only at q1; rw [q1] at x; simp at x)
   rw [hwant.2]
   simp only [Bool.false_eq_true, if_false]
   exact skp q2
end
end Go.Proofs.YtibchilpaaiecaaGreatDoor.M
