/- Operations, lists of operations: what is compiled speaks of the machine. -/
import Derived.Test.YtibchilpaaiecaaGreatDoorM11
set_option linter.unusedVariables false
set_option linter.unusedSimpArgs false
namespace Go.Proofs.YtibchilpaaiecaaGreatDoor.M
open Go.RowKit
theorem bndE_eq (σ : List AV) (o : Option Opd) : bndE (evalO σ) o = bndA σ o := by cases o <;> rfl
section
variable {P : Program} {w0 w : World} {ds : List Deferred} {g : Gh} {h : AH} {n : Nat → Nat} {σ : List AV} {a : Act}
theorem tass_sound {K : AV → Prop} {x : AV} {ux : Value} {xT t : TypeId} {d : TypeDesc} {z : Value} {za : AV} (ht : P.underlying t = some d) (hd : ¬ isIfc d = true)
    (hz : ∀ w : World, (zeroValue t).run P w = .ok z w) (hza : VR g za z) (hzc : za.cl = true) (hx : VR g x ux) {r : AV} (hr : tassV t za x = some r) (hK : K r) :
    ∃ r z, (Instr.typeAssert ux xT t true).run P w = .ok z w ∧ VR g r z ∧ r.cl = true ∧ K r := by
  cases x <;> simp only [tassV] at hr <;> try (cases hr; done)
  case nili =>
    simp only [VR] at hx; subst hx; cases hr
    refine ⟨_, .tuple #[z, .bool false], ?_, by simp only [VR]; exact ⟨_, rfl, by simp [VL, VR, hza]⟩, by simp [AV.cl, clL, hzc], hK⟩
    cases d <;> first | (simp [Instr.typeAssert, run_underlying ht, hz]; done) | (exact absurd rfl hd)
  case iface i v =>
    simp only [VR] at hx
    obtain ⟨u, rfl, hv, hcl⟩ := hx
    split at hr <;> cases hr
    · rename_i he; subst he
      refine ⟨_, .tuple #[u, .bool true], ?_, by simp only [VR]; exact ⟨_, rfl, by simp [VL, VR, hv]⟩, by simp [AV.cl, clL, hcl], hK⟩
      cases d <;> first | (simp [Instr.typeAssert, run_underlying ht]; done) | (exact absurd rfl hd)
    · rename_i he
      refine ⟨_, .tuple #[z, .bool false], ?_, by simp only [VR]; exact ⟨_, rfl, by simp [VL, VR, hza]⟩, by simp [AV.cl, clL, hzc], hK⟩
      cases d <;> first | (simp [Instr.typeAssert, run_underlying ht, he, hz]; done) | (exact absurd rfl hd)
theorem VR_bool_not {v : AV} {b : Bool} (hv : VR g v (.bool b)) : v = .bool b ∨ v = .any := by
  cases v <;> simp only [VR] at hv
  case bool => cases hv; exact .inl rfl
  case any => exact .inr rfl
  case bs => obtain ⟨_, _, _, _, h, _⟩ := hv; cases h
  case box => obtain ⟨_, _, h⟩ := hv; cases h
  case ref => obtain ⟨_, _, h, _⟩ := hv; cases h
  case sl => rcases hv with ⟨_, _, _, h⟩ | ⟨_, _, _, h, _⟩ <;> cases h
  case agg => obtain ⟨_, h, _⟩ := hv; cases h
  case tup => obtain ⟨_, h, _⟩ := hv; cases h
  case iface => obtain ⟨_, h, _⟩ := hv; cases h
  case fn => obtain ⟨_, _, h, _⟩ := hv; cases h
  case mp => obtain ⟨_, _, h⟩ := hv; cases h
  all_goals cases hv
theorem tmps_get (hs : VL g σ a.tmps.toList) (s : Nat) : (∃ v u, σ[s]? = some v ∧ a.tmps[s]? = some u ∧ VR g v u) ∨ (σ[s]? = none ∧ a.tmps[s]? = none) := by
  cases e : σ[s]? with
  | none =>
    right
    have := VL.length hs
    rw [List.getElem?_eq_none_iff] at e
    refine ⟨rfl, ?_⟩
    rw [Array.getElem?_eq_none_iff]
    rw [Array.length_toList] at this; omega
  | some v =>
    left
    obtain ⟨u, hu, hv⟩ := VL.get hs e
    exact ⟨v, u, rfl, by simpa using hu, hv⟩
theorem SR.skip (hs : SR ds w0 g n σ h a w) (d : Option Nat) : SR ds w0 g n (putA σ d undefA) h (a.put d undef) w := hs.put d (VR_undef g) rfl
theorem Inv.takeBox (hi : Inv w0 g h n w) {id off : Nat} {cs : List AV} {c : AV} (hc : h[id]? = some (.cells cs)) (ho : cs[off]? = some c) :
    ∃ B u, g.bx id = some B ∧ w.cell? ⟨B, off, none⟩ = some u ∧ VR g c u ∧ OV w0 g w c u ∧ Inv w0 g (h.set id (.cells (cs.set off c.sh))) (fun b => n b + tk c u b) w := by
  obtain ⟨bv, e1, e2, e3⟩ := hi.rest
  have hil : id < h.length := (List.getElem?_eq_some_iff.1 hc).1
  obtain ⟨vs, hvs⟩ : ∃ vs, bv[id]? = some vs := ⟨bv[id], by simp [e1, hil]⟩
  have hbx := e2 id _ vs hc hvs
  obtain ⟨B, el, ex, h1, h2, h3, h4, h5, h6, h7⟩ := hbx
  obtain ⟨u, hu, hvr⟩ := VL.get h4 ho
  have hself : vs.set off u = vs := by
    apply List.ext_getElem?
    intro i
    by_cases hi : i = off
    · subst hi; rw [List.getElem?_set_self (List.getElem?_eq_some_iff.1 hu).1, hu]
    · rw [List.getElem?_set_ne (by omega)]
  have hsv : bv.set id vs = bv := by
    apply List.ext_getElem?
    intro i
    by_cases hi : i = id
    · subst hi; rw [List.getElem?_set_self (by omega), hvs]
    · rw [List.getElem?_set_ne (by omega)]
  have htk : ∀ b, tkL (cs.set off c.sh) vs b + tk c u b = tkL cs vs b := fun b => by
    have := tkL_set h4 (v' := c.sh) (u' := u) ho hu b
    rw [hself, tk_cl (cl_sh c)] at this; omega
  have hcell : w.cell? ⟨B, off, none⟩ = some u := by
    have hlt := (List.getElem?_eq_some_iff.1 hu).1
    have : (vs ++ ex)[off]? = some u := by rw [List.getElem?_append_left hlt]; exact hu
    simp [World.cell?, h3, this]
  refine ⟨B, u, h1, hcell, hvr, OVL.get h6 ho hu, hi.gw, hi.gl, hi.below, hi.prot, fun i b hb => by simpa using hi.bxd i b hb, hi.inj, fun b hb => ?_, bv, by simp [e1], fun i x ys hx hy => ?_, fun b => ?_⟩
  · have hkeep : b < w.heap.size ∧ ∀ i x, h[i]? = some x → x ≠ .dead → g.bx i ≠ some b := by
      by_cases hn : 0 < n b
      · exact hi.tokp b hn
      · exact hi.prot_ok ((e2 id _ vs hc hvs).tk_prot (B := b) (by have := tkL_get ho hu b; simp only [tkB]; omega))
    refine ⟨hkeep.1, fun i x hx hd => ?_⟩
    by_cases hji : i = id
    · subst hji; exact hkeep.2 i _ hc (by simp)
    · rw [List.getElem?_set_ne (by omega)] at hx; exact hkeep.2 i x hx hd
  · by_cases hji : i = id
    · subst hji
      rw [List.getElem?_set_self hil] at hx
      rw [hvs] at hy
      cases hx; cases hy
      refine ⟨B, el, ex, h1, h2, h3, ?_, ?_, ?_, h7⟩
      · have := VL.set h4 off (VR.sh c u hvr); rwa [hself] at this
      · refine onesL_mk fun x hx => ?_
        rcases List.mem_or_eq_of_mem_set hx with hx | rfl
        · exact onesL_mem h5 x hx
        · rw [one_sh]; exact onesL_get h5 ho
      · have := OVL.set h6 off (v := c.sh) (u := u) (OV_cl (cl_sh c)); rwa [hself] at this
    · rw [List.getElem?_set_ne (by omega)] at hx
      exact e2 i x ys hx hy
  · have := tkBs_set e1 (b' := .cells (cs.set off c.sh)) (vs' := vs) hc hvs b
    rw [hsv] at this
    have := e3 b; have := htk b
    simp only [tkB] at *; omega
theorem ltake_sound {o : Oper} {t : TypeId} {x : Operand} {y : Opd} (hop : o.op = .load t x) (hm : IsVar P t none) (hy : compO x = some y) (hs : SR ds w0 g n σ h a w) {r : AV × AH} (hr : ltakeV h (evalO σ y) = some r)
    {K : List AV → AH → Prop} {Q : Exit → Act → World → Prop} (hK : K (putA σ o.dst r.1) r.2) : o.wp P a w (OpPost ds w0 g n w K) Q := by
  have hv := compO_VR hs.inv.gl hs.vl hy
  generalize evalO σ y = p at hv hr
  cases p <;> simp only [ltakeV] at hr <;> try (cases hr; done)
  rename_i id off
  cases e : h[id]? with
  | none => rw [e] at hr; simp [ltakeB] at hr
  | some b =>
    rw [e] at hr
    cases b <;> simp only [ltakeB] at hr <;> try (cases hr; done)
    rename_i cs
    cases ho : cs[off]? with
    | none => rw [ho] at hr; cases hr
    | some c =>
      rw [ho] at hr
      cases hr
      simp only [VR] at hv
      obtain ⟨B, hB, hu⟩ := hv
      obtain ⟨B', u, k1, k2, k3, k4, k5⟩ := hs.inv.takeBox e ho
      rw [hB] at k1; cases k1
      refine op_step (w' := w) (u := u) (g' := g) ?_ (Gh.le.refl g) (Keep.refl n g w) (hs.step o.dst hs.vl hs.ov k3 k4 k5) hK
      have := run_loadVar_one (P := P) (t := t) (a := ⟨B, off, none⟩) hm k2
      simp [execOp, hop, Instr.loadAt, hu, Instr.sureAddr, this]
theorem rbox_sound {o : Oper} {el : TypeId} {x : Operand} {y : Opd} (hop : o.op = .box el x) (hy : compO x = some y) (hs : SR ds w0 g n σ h a w) {v : AV} (hr : rboxV (evalO σ y) = some v)
    {K : List AV → AH → Prop} {Q : Exit → Act → World → Prop} (hK : K (putA σ o.dst v) h) : o.wp P a w (OpPost ds w0 g n w K) Q := by
  have hv := compO_VR hs.inv.gl hs.vl hy
  unfold rboxV at hr
  split at hr <;> cases hr
  rename_i ho
  have hc := VL.shl (cells_VL hv ho)
  have hle : g.le (g.addProt w.heap.size 0 (a.eval x).cells.toList) := Gh.le_addProt fun p _ => hs.inv.prot_new (Nat.le_refl _) p
  refine newRow_sound (w' := w.alloc (.cells (a.eval x).cells el)) (u := .pointer (some ⟨w.heap.size, 0, none⟩)) (vs := (a.eval x).cells.toList) hs ?_ rfl rfl rfl (by simp) (fun j hj => heap_alloc_lt w _ hj) (fun j v hj => by rw [World.cell?_alloc_new]; simpa using hj) ?_ rfl hK
  · simp [execOp, hop, Instr.box, newVar, newRow]
  · simp only [VR]
    refine ⟨w.heap.size, 0, rfl, PR.mk fun i c hi => ?_⟩
    obtain ⟨u, hu, hvr⟩ := VL.get hc hi
    refine ⟨u, by simpa using Gh.addProt_at (g := g) (B := w.heap.size) (o := 0) hu, VR.mono hle _ _ hvr, ?_, ?_⟩
    · exact clL_mem (cl_shL _) c (List.mem_of_getElem? hi)
    · exact onesL_get (by rw [onesL_sh]; exact ho) hi
theorem compOp_sound {o : Oper} {mv : Bool} {c : COp} (hc : compOp P mv o.op = some c) {K : List AV → AH → Prop} {Q : Exit → Act → World → Prop} (hs : SR ds w0 g n σ h a w) (hk : Wop P c o.dst σ h K) : o.wp P a w (OpPost ds w0 g n w K) Q := by
  unfold compOp at hc
  split at hc
  · -- move
    rename_i x hop
    split at hc <;> cases hc
    rename_i y hy
    cases mv
    · obtain ⟨r, hr, hk⟩ := hk
      simp only [xop, Bool.false_eq_true, if_false, Option.some.injEq] at hr; subst hr
      exact mov_sound (.inl hop) hy hs (by rwa [putL_put] at hk)
    · obtain ⟨r, hr, hk⟩ := hk
      simp only [xop, if_true, Option.some.injEq] at hr; subst hr
      exact take_sound (.inr hop) hy hs (by rwa [putL_append, putL_take, putL_put, ← moveO_1] at hk)
  · rename_i x hop
    split at hc <;> cases hc
    rename_i y hy
    cases mv
    · obtain ⟨r, hr, hk⟩ := hk
      simp only [xop, Bool.false_eq_true, if_false, Option.some.injEq] at hr; subst hr
      exact mov_sound (.inr hop) hy hs (by rwa [putL_put] at hk)
    · obtain ⟨r, hr, hk⟩ := hk
      simp only [xop, if_true, Option.some.injEq] at hr; subst hr
      exact take_sound (.inl hop) hy hs (by rwa [putL_append, putL_take, putL_put, ← moveO_1] at hk)
  · rename_i c x y hop
    split at hc <;> cases hc
    rename_i c' x' y' h1 h2 h3
    obtain ⟨v, hv, hk⟩ := val_inv hk
    exact pick_sound hop h1 h2 h3 hs (pick_br (K := fun v => K (putA σ o.dst v) h) hv hk)
  · rename_i e hop
    split at hc <;> try (cases hc; done)
    rename_i i hi
    split at hc <;> try (cases hc; done)
    rename_i z hz
    split at hc <;> cases hc
    rename_i cs hcs
    obtain ⟨r, hr, hk⟩ := hk
    simp only [xop, Option.some.injEq] at hr; subst hr
    exact alloc_sound hop hi hz hcs hs (by rwa [putL_put] at hk)
  · rename_i e x hop
    split at hc <;> cases hc
    rename_i y hy
    cases mv
    rotate_left
    · simp only [if_true] at hk
      obtain ⟨v, hv, hk⟩ := val_inv hk
      exact rbox_sound hop hy hs hv hk
    simp only [Bool.false_eq_true, if_false] at hk
    obtain ⟨r, hr, hk⟩ := hk
    simp only [xop] at hr
    split at hr <;> cases hr
    rename_i ho
    rw [← moveO_1] at ho
    exact box_sound hop hy hs ho (by rw [putL_append, putL_take, putL_put, ← moveO_1] at hk; exact hk)
  · rename_i t x hop
    split at hc <;> cases hc
    rename_i m y hm hy
    by_cases hmv : (mv && m.isNone) = true
    · rw [if_pos hmv] at hk
      simp only [Bool.and_eq_true, Option.isNone_iff_eq_none] at hmv
      obtain ⟨_, rfl⟩ := hmv
      obtain ⟨r, hr, hk⟩ := hk
      simp only [xop, Option.map_eq_some_iff] at hr
      obtain ⟨r', hr', rfl⟩ := hr
      exact ltake_sound hop (varOf_IsVar hm) hy hs hr' (by rwa [putL_put] at hk)
    rw [if_neg hmv] at hk
    exact op_pure hs (s := Instr.loadAt t (a.eval x)) (by simp [execOp, hop]) (by
      obtain ⟨v, hv, hk⟩ := val_inv hk
      exact loadVar_sound hs.inv (varOf_IsVar hm) (compO_VR hs.inv.gl hs.vl hy) (load_br (K := fun v => K (putA σ o.dst v) h) hv hk))
  · rename_i t x v hop
    split at hc <;> cases hc
    rename_i N x' v' h1 h2 h3
    obtain ⟨r, hr, hk⟩ := hk
    simp only [xop] at hr
    split at hr <;> try (cases hr; done)
    rename_i hd
    simp only [Option.map_eq_some_iff] at hr
    obtain ⟨hh, hv, rfl⟩ := hr
    refine store_sound hop hd h2 h3 h1 hs ?_
    unfold storeW
    rw [moveO_1]
    generalize evalO σ x' = p at *
    cases p <;> simp only [storeV] at hv <;> try (cases hv; done)
    rename_i id off
    simp only [Option.map_eq_some_iff] at hv
    obtain ⟨b, hb, rfl⟩ := hv
    cases e : h[id]? with
    | none => rw [e] at hb; cases hb
    | some bx =>
      rw [e] at hb
      cases bx <;> simp only [storeB] at hb <;> try (cases hb; done)
      split at hb <;> cases hb
      rename_i hcc
      exact ⟨_, e, hcc.1, hcc.2.1, hcc.2.2, by rwa [putL_take] at hk⟩
  · rename_i x hop
    split at hc <;> cases hc
    rename_i y hy
    obtain ⟨v, hv, hk⟩ := val_inv hk
    exact nilck_sound hop hy hs (nilck_br (K := fun v => K (putA σ o.dst v) h) hv hk)
  · rename_i op t x y u hop
    split at hc
    · cases hc; rename_i h1 h2 h3; obtain ⟨v, hv, hk⟩ := val_inv hk; exact bin_op hop h2 h3 hs (bin_br (K := fun v => K (putA σ o.dst v) h) hv hk)
    · cases hc; rename_i h1 h2 h3; obtain ⟨v, hv, hk⟩ := val_inv hk; exact bin_op hop h2 h3 hs (bin_br (K := fun v => K (putA σ o.dst v) h) hv hk)
    · rename_i fs x' y' h1 h2 h3
      split at hc <;> cases hc
      rename_i neg idx hneg hidx
      have hn : op = if neg then .neq else .eql := by cases op <;> simp [eqOp] at hneg <;> subst hneg <;> rfl
      obtain ⟨v, hv, hk⟩ := val_inv hk
      exact eqs_sound hop hn h2 h3 hidx hs hv hk
    · rename_i d h1 _ _ _; exact compEq_sound hc h1 hop hs (by
        unfold compEq at hc
        split at hc <;> try (cases hc; done)
        split at hc
        · split at hc <;> cases hc; exact hk
        · split at hc
          · split at hc <;> cases hc; exact hk
          · split at hc <;> try (cases hc; done)
            split at hc <;> cases hc; exact hk
        · split at hc <;> try (cases hc; done)
          split at hc
          · split at hc <;> cases hc; exact hk
          · split at hc <;> try (cases hc; done)
            split at hc <;> cases hc; exact hk)
    · cases hc
  · rename_i op t x hop
    split at hc <;> cases hc
    rename_i y hy
    exact op_pure hs (s := Op.unary op (a.eval x)) (by simp [execOp, hop]) (by
      obtain ⟨v, hv, hk⟩ := val_inv hk
      exact un_sound (compO_VR hs.inv.gl hs.vl hy) (un_br (K := fun v => K (putA σ o.dst v) h) hv hk))
  · rename_i s d x hop
    split at hc <;> try (cases hc; done)
    rename_i y hy
    have vy := compO_VR hs.inv.gl hs.vl hy
    have he : (execOp a.eval o).run P w = ((convert s d (a.eval x)).run P w).andThen fun v w => .ok (.value v) w := by simp [execOp, hop]
    unfold compConv at hc
    split at hc
    · rename_i d1 k h1 h2
      cases hc
      obtain ⟨v, hv, hk⟩ := val_inv hk
      exact op_pure hs he (convInt_sound h1 h2 vy (cInt_br (K := fun v => K (putA σ o.dst v) h) hv hk))
    · rename_i e h1 h2
      split at hc <;> cases hc
      rename_i h3
      obtain ⟨v, hv, hk⟩ := val_inv hk
      exact op_pure hs he (bytesStr_sound hs.inv h1 h3 h2 vy (bytes_br (K := fun v => K (putA σ o.dst v) h) hv hk))
    · rename_i h1 h2
      cases hc
      obtain ⟨v, hv, hk⟩ := val_inv hk
      exact op_pure hs he (convStr_sound h1 h2 vy (cStr_br (K := fun v => K (putA σ o.dst v) h) hv hk))
    · rename_i e h1 h2
      split at hc <;> cases hc
      rename_i h3
      obtain ⟨v, hv, hk⟩ := val_inv hk
      have hb : ∃ b, evalO σ y = .str b ∧ v = .sl .sh (b.data.toList.map encB) := by
        generalize evalO σ y = p at *
        cases p <;> simp only [strBytesV] at hv <;> cases hv
        exact ⟨_, rfl, rfl⟩
      obtain ⟨b, hb, rfl⟩ := hb
      exact strBytes_sound hop hy h1 h2 h3 hs hb hk
    · rename_i e1 e h1 h2
      split at hc <;> try (cases hc; done)
      rename_i hsd
      subst hsd
      split at hc <;> cases hc
      rename_i h3
      obtain ⟨r, hr, hk⟩ := hk
      simp only [xop, Option.map_eq_some_iff] at hr
      obtain ⟨v, hv, rfl⟩ := hr
      refine bconv_sound hop hy h2 h3 hs ?_
      unfold bconvW
      rw [moveO_1]
      rw [putL_append, putL_take, putL_put] at hk
      generalize evalO σ y = p at *
      cases p <;> simp only [bconvV] at hv <;> try (cases hv; done)
      rename_i m es
      cases m <;> simp only [bconvV] at hv <;> cases hv
      exact hk
    · cases hc
  · rename_i s x f hop
    split at hc <;> try (cases hc; done)
    rename_i fs y h1 h2
    split at hc <;> try (cases hc; done)
    rename_i fd h3
    split at hc <;> cases hc
    rename_i k h4
    exact op_pure hs (s := Instr.fieldAt s (a.eval x) f) (by simp [execOp, hop]) (by
      obtain ⟨v, hv, hk⟩ := val_inv hk
      exact faddr_sound h1 h3 h4 (by omega) (compO_VR hs.inv.gl hs.vl h2) (faddr_br (K := fun v => K (putA σ o.dst v) h) hv hk))
  · rename_i s x f hop
    split at hc <;> try (cases hc; done)
    rename_i fs y h1 h2
    split at hc <;> try (cases hc; done)
    rename_i fd h3
    split at hc <;> cases hc
    rename_i m h4
    exact op_pure hs (s := Instr.field s (a.eval x) f) (by simp [execOp, hop]) (by
      obtain ⟨v, hv, hk⟩ := val_inv hk
      exact field_sound h1 h3 (varOf_IsVar h4) (compO_VR hs.inv.gl hs.vl h2) (field_br (K := fun v => K (putA σ o.dst v) h) hv hk))
  · rename_i t x i hop
    split at hc <;> try (cases hc; done)
    · rename_i e x' i' h1 h2 h3
      split at hc <;> cases hc
      rename_i S h4
      obtain ⟨v, hv, hk⟩ := val_inv hk
      have vx := compO_VR (a := a) hs.inv.gl hs.vl h2
      have vi := compO_VR (a := a) hs.inv.gl hs.vl h3
      generalize evalO σ x' = p at *
      generalize evalO σ i' = q at *
      refine op_pure hs (s := Instr.indexAt t (a.eval x) (a.eval i)) (by simp [execOp, hop]) ?_
      cases p <;> cases q <;> simp only [iaddrV] at hv <;> try (cases hv; done)
      · rename_i m es k j
        split at hv <;> try (cases hv; done)
        rename_i hcc
        refine iaddr_slice (K := fun v => K (putA σ o.dst v) h) h1 h4 vx vi ⟨rfl, hcc.2, ?_⟩
        cases e2 : es[j.toNat]? with
        | none => rw [e2] at hv; cases hv
        | some ee =>
          rw [e2] at hv
          simp only [elemV] at hv
          split at hv <;> cases hv
          rename_i hl
          exact ⟨ee, rfl, hl, hk⟩
      · rename_i id off len cap k j
        split at hv <;> cases hv
        rename_i hcc
        exact iaddr_bs (K := fun v => K (putA σ o.dst v) h) h1 h4 vx vi hcc.2.1 hcc.2.2 hk
    · rename_i nn e x' i' h1 h2 h3
      split at hc <;> cases hc
      rename_i S h4
      obtain ⟨v, hv, hk⟩ := val_inv hk
      have vx := compO_VR (a := a) hs.inv.gl hs.vl h2
      have vi := compO_VR (a := a) hs.inv.gl hs.vl h3
      generalize evalO σ x' = p at *
      generalize evalO σ i' = q at *
      refine op_pure hs (s := Instr.indexAt t (a.eval x) (a.eval i)) (by simp [execOp, hop]) (iaddr_array (K := fun v => K (putA σ o.dst v) h) h1 h4 vx vi ?_)
      cases p <;> cases q <;> simp only [iaddrV] at hv <;> try (cases hv; done)
      all_goals first
        | (simp at hv; done)
        | (split at hv <;> cases hv
           rename_i hcc
           first | exact ⟨hcc.1, hcc.2, hk⟩ | (simp at hcc; done))
  · rename_i t x i hop
    split at hc <;> try (cases hc; done)
    · rename_i x' i' h1 h2 h3
      cases hc
      obtain ⟨v, hv, hk⟩ := val_inv hk
      have vx := compO_VR (a := a) hs.inv.gl hs.vl h2
      have vi := compO_VR (a := a) hs.inv.gl hs.vl h3
      generalize evalO σ x' = p at *
      generalize evalO σ i' = q at *
      cases p <;> cases q <;> simp only [idxsV] at hv <;> try (cases hv; done)
      rename_i s k j
      split at hv <;> try (cases hv; done)
      rename_i h0
      cases e : s[j.toNat]? with
      | none => rw [e] at hv; cases hv
      | some b =>
        rw [e] at hv; cases hv
        exact op_pure hs (s := Instr.index t (a.eval x) (a.eval i)) (by simp [execOp, hop]) (idx_str (K := fun v => K (putA σ o.dst v) h) (S := 0) (N := 0) h1 vx vi ⟨h0, b, e, hk⟩ ⟨s, rfl⟩)
    · rename_i n e x' i' h1 h2 h3
      split at hc <;> cases hc
      rename_i S m h4 h5
      obtain ⟨v, hv, hk⟩ := val_inv hk
      have vx := compO_VR (a := a) hs.inv.gl hs.vl h2
      have vi := compO_VR (a := a) hs.inv.gl hs.vl h3
      generalize evalO σ x' = p at *
      generalize evalO σ i' = q at *
      cases p <;> cases q <;> simp only [idxaV] at hv <;> try (cases hv; done)
      rename_i cs k j
      split at hv <;> try (cases hv; done)
      rename_i h0
      exact op_pure hs (s := Instr.index t (a.eval x) (a.eval i)) (by simp [execOp, hop]) (idx_arr (K := fun v => K (putA σ o.dst v) h) h1 (varOf_IsVar h5) h4 vx vi h0.1 h0.2 (field_br (K := fun v => K (putA σ o.dst v) h) hv hk))
  · rename_i t i hop
    cases hc
    obtain ⟨r, hr, hk⟩ := hk
    simp only [xop, Option.map_eq_some_iff] at hr
    obtain ⟨u, hu, rfl⟩ := hr
    refine extract_sound hop hs ?_
    unfold extractW
    simp only [evalO] at hu
    have htl : ∀ cs, σ.getD t undefA = .tup cs → cs ≠ [] → t < σ.length := by
      intro cs hcs hne
      rcases Nat.lt_or_ge t σ.length with hlt | hge
      · exact hlt
      · rw [List.getD, List.getElem?_eq_none hge] at hcs
        simp only [Option.getD_none, undefA, AV.tup.injEq] at hcs
        exact absurd hcs.symm hne
    generalize σ.getD t undefA = p at *
    cases p <;> simp only [extractV] at hu <;> try (cases hu; done)
    rename_i cs
    cases e : cs[i]? with
    | none => rw [e] at hu; cases hu
    | some c =>
      rw [e] at hu; cases hu
      refine ⟨htl cs rfl (by rintro rfl; simp at e), c, e, ?_⟩
      simp only [putL, putL_put] at hk; exact hk
  · rename_i t x hop
    split at hc <;> cases hc
    rename_i d y hne h1 h2
    obtain ⟨r, hr, hk⟩ := hk
    simp only [xop, Option.some.injEq] at hr; subst hr
    exact mkif_sound hop h2 h1 (fun ms hd => hne ms (by rw [hd])) hs (by rwa [putL_put] at hk)
  · rename_i f x y hop
    split at hc <;> cases hc
    rename_i l1 l2 h1 h2
    obtain ⟨r, hr, hk⟩ := hk
    simp only [xop, Option.some.injEq] at hr; subst hr
    exact mkfn_sound hop h1 h2 hs (by rwa [putL_put] at hk)
  · rename_i t x lo hi mx hop
    split at hc <;> try (cases hc; done)
    · rename_i x' lo' hi' h1 h2 h3 h4 h5
      cases hc
      obtain ⟨v, hv, hk⟩ := val_inv hk
      have vx := compO_VR (a := a) hs.inv.gl hs.vl h2
      have hmx : mx = none := by
        cases mx with
        | none => rfl
        | some z => simp only [compOo] at h5; split at h5 <;> cases h5
      subst hmx
      simp only [bndE_eq] at hv
      generalize evalO σ x' = p at *
      cases e1 : bndA σ lo' with
      | none => rw [e1] at hv; cases p <;> simp [sliceV] at hv
      | some l =>
        cases e2 : bndA σ hi' with
        | none => rw [e1, e2] at hv; cases p <;> simp [sliceV] at hv
        | some r =>
          rw [e1, e2] at hv
          have e3 : bndA σ none = some none := rfl
          rw [e3] at hv
          cases p <;> simp only [sliceV] at hv <;> try (cases hv; done)
          rename_i s
          split at hv <;> cases hv
          rename_i hcc
          simp only [VR] at vx
          exact op_pure hs (s := Instr.sliceAt t (a.eval x) (lo.map a.eval) (hi.map a.eval) none) (by simp [execOp, hop])
            (by rw [vx]; exact slice_str (K := fun v => K (putA σ o.dst v) h) (S := 0) h1 (bnd_R hs.inv.gl hs.vl h3 e1) (bnd_R hs.inv.gl hs.vl h4 e2) ⟨rfl, hcc.2.1, hcc.2.2.1, hcc.2.2.2, hk⟩)
    · rename_i e x' lo' hi' mx' h1 h2 h3 h4 h5
      split at hc <;> cases hc
      rename_i S h6
      obtain ⟨v, hv, hk⟩ := val_inv hk
      have vx := compO_VR (a := a) hs.inv.gl hs.vl h2
      simp only [bndE_eq] at hv
      generalize evalO σ x' = p at *
      cases e1 : bndA σ lo' with
      | none => rw [e1] at hv; cases p <;> simp [sliceV] at hv
      | some l =>
        cases e2 : bndA σ hi' with
        | none => rw [e1, e2] at hv; cases p <;> simp [sliceV] at hv
        | some r =>
          cases e3 : bndA σ mx' with
          | none => rw [e1, e2, e3] at hv; cases p <;> cases r <;> simp [sliceV] at hv
          | some M =>
            rw [e1, e2, e3] at hv
            by_cases hbs : ∃ id off len cap, p = .bs id off len cap
            · obtain ⟨id, off, len, cap, rfl⟩ := hbs
              cases M with
              | some M => cases r <;> simp [sliceV] at hv
              | none =>
                simp only [sliceV] at hv
                split at hv <;> cases hv
                rename_i hcc
                have hmx : mx = none := by
                  have := bnd_R (a := a) hs.inv.gl hs.vl h5 e3
                  cases mx with
                  | none => rfl
                  | some z => obtain ⟨_, _, _, q⟩ := this; cases q
                subst hmx
                exact op_pure hs (s := Instr.sliceAt t (a.eval x) (lo.map a.eval) (hi.map a.eval) none) (by simp [execOp, hop])
                  (slice_bs (K := fun v => K (putA σ o.dst v) h) h1 h6 (bnd_R hs.inv.gl hs.vl h3 e1) (bnd_R hs.inv.gl hs.vl h4 e2) vx hcc hk)
            have key : sliceAV S l r M (fun v => K (putA σ o.dst v) h) p ∧ ∃ m es, p = .sl m es := by
              cases p <;> try (first | (cases M <;> cases r <;> simp [sliceV] at hv; done) | exact absurd ⟨_, _, _, _, rfl⟩ hbs)
              rename_i m es
              refine ⟨?_, _, _, rfl⟩
              cases M with
              | none =>
                simp only [sliceV] at hv
                split at hv <;> cases hv
                rename_i hcc
                exact ⟨hcc.1, hcc.2.1, hcc.2.2.1, szOK_of vx hcc.2.2.2, hk⟩
              | some M =>
                cases r with
                | none => simp [sliceV] at hv
                | some r =>
                  simp only [sliceV] at hv
                  split at hv <;> cases hv
                  rename_i hcc
                  exact ⟨hcc.1, hcc.2.1, hcc.2.2.1, szOK_of vx hcc.2.2.2.1, rfl, hcc.2.2.2.2.1, hcc.2.2.2.2.2, hk⟩
            obtain ⟨key, m, es, rfl⟩ := key
            exact op_pure hs (s := Instr.sliceAt t (a.eval x) (lo.map a.eval) (hi.map a.eval) (mx.map a.eval)) (by simp [execOp, hop])
              (slice_slice h1 h6 (bnd_R hs.inv.gl hs.vl h3 e1) (bnd_R hs.inv.gl hs.vl h4 e2) (bnd_R hs.inv.gl hs.vl h5 e3) vx key ⟨m, es, rfl⟩)
  · rename_i t parts hop
    split at hc <;> cases hc
    rename_i z ps h1
    obtain ⟨v, hv, hk⟩ := val_inv hk
    exact build_sound hop h1 hs (build_br (K := fun v => K (putA σ o.dst v) h) hv hk)
  · rename_i t len parts hop
    split at hc <;> cases hc
    rename_i S xs h1
    obtain ⟨v, hv, hk⟩ := val_inv hk
    simp only [bsliceV] at hv
    split at hv <;> cases hv
    rename_i hcc
    refine bslice_sound hop h1 hs (fun ht hn => hcc.1 ht ?_) (allSz_of hcc.2) hk
    rw [hn]; rfl
  · rename_i t nn c hop
    split at hc <;> try (cases hc; done)
    rename_i e n' c' h1 h2 h3
    split at hc <;> try (cases hc; done)
    rename_i i hi
    split at hc <;> try (cases hc; done)
    rename_i z hz
    split at hc <;> try (cases hc; done)
    rename_i cs hcs
    split at hc <;> cases hc
    rename_i hsz
    obtain ⟨r, hr, hk⟩ := hk
    simp only [xop, Option.map_eq_some_iff] at hr
    obtain ⟨r', hv, rfl⟩ := hr
    exact mkslice_sound hop h1 h2 h3 hi hz hcs hsz hs hv (by rwa [putL_put] at hk)
  · rename_i t hop
    cases hc
    obtain ⟨r, hr, hk⟩ := hk
    simp only [xop, Option.some.injEq] at hr; subst hr
    exact mkmap_sound hop hs (by rwa [putL_put] at hk)
  · rename_i t x i ok hop
    split at hc <;> try (cases hc; done)
    rename_i kt et x' i' h1 h2 h3
    split at hc <;> try (cases hc; done)
    rename_i d inf hd hi
    split at hc <;> try (cases hc; done)
    rename_i z hz
    split at hc <;> cases hc
    rename_i za hza
    obtain ⟨v, hv, hk⟩ := val_inv hk
    obtain ⟨z1, z2⟩ := zeroA_VR (g := g) hza
    exact op_pure hs (s := Instr.lookup t (a.eval x) (a.eval i) ok) (by simp [execOp, hop]) (look_sound (K := fun v => K (putA σ o.dst v) h) hs.inv h1 hd (fun w => by simp [zeroValue, typeInfo, hi, hz]) z1 z2 (compO_VR (a := a) hs.inv.gl hs.vl h2) (compO_VR (a := a) hs.inv.gl hs.vl h3) hv hk)
  · rename_i t m k x hop
    split at hc <;> try (cases hc; done)
    rename_i kt et m' k' x' h1 h2 h3 h4
    split at hc <;> cases hc
    rename_i d hd
    obtain ⟨r, hr, hk⟩ := hk
    simp only [xop] at hr
    split at hr <;> try (cases hr; done)
    rename_i hdst
    simp only [Option.map_eq_some_iff] at hr
    obtain ⟨h', hv, rfl⟩ := hr
    exact mput_sound hop hdst h1 hd h2 h3 h4 hs hv hk
  · rename_i x xT t hop
    split at hc <;> try (cases hc; done)
    rename_i d h1
    split at hc <;> try (cases hc; done)
    rename_i hd
    split at hc <;> try (cases hc; done)
    rename_i inf y hi h2
    split at hc <;> try (cases hc; done)
    rename_i z hz
    split at hc <;> cases hc
    rename_i za hza
    obtain ⟨v, hv, hk⟩ := val_inv hk
    obtain ⟨z1, z2⟩ := zeroA_VR (g := g) hza
    exact op_pure hs (s := Instr.typeAssert (a.eval x) xT t true) (by simp [execOp, hop]) (tass_sound (K := fun v => K (putA σ o.dst v) h) h1 hd (fun w => by simp [zeroValue, typeInfo, hi, hz]) z1 z2 (compO_VR (a := a) hs.inv.gl hs.vl h2) hv hk)
  · rename_i c hop
    exact compCall_sound hc hop hs hk
  · cases hc
def gV (σ : List AV) : Option (Nat × Bool) → Option Bool
  | none => some true
  | some (s, want) => match σ[s]? with | some (.bool b) => some (b == want) | some .any => none | _ => some false
def effOp (o : CO) (σ : List AV) : COp := match gV σ o.guard with | some true => o.op | some false => .mov (.con undefA) | none => .stuck
def Wg (P : Program) (o : CO) (σ : List AV) (h : AH) (K : List AV → AH → Prop) : Prop := Wop P (effOp o σ) o.dst σ h K
def Wops (P : Program) : List CO → List AV → AH → (List AV → AH → Prop) → Prop
  | [], σ, h, K => K σ h
  | o :: rest, σ, h, K => Wg P o σ h (fun σ' h' => Wops P rest σ' h' K)
theorem guard_cases {ops : Array Oper} {o : Oper} {gd : Option (Nat × Bool)} (hs : VL g σ a.tmps.toList) (h2 : compGuard ops o.guard = some gd) (hn : gV σ gd ≠ none) :
    (gV σ gd = some true ∧ Region.wanted o (yielded ops a.tmps) = true) ∨ (gV σ gd = some false ∧ Region.wanted o (yielded ops a.tmps) = false) := by
  cases hgd : o.guard with
  | none =>
    simp only [hgd, compGuard, Option.some.injEq] at h2; subst h2
    exact .inl ⟨rfl, by simp [Region.wanted, hgd]⟩
  | some jw =>
    obtain ⟨j, want⟩ := jw
    simp only [hgd, compGuard] at h2
    split at h2 <;> cases h2
    rename_i s hj
    simp only [gV] at hn ⊢
    rcases tmps_get hs s with ⟨v, u, q1, q2, q3⟩ | ⟨q1, q2⟩
    · rw [q1] at hn ⊢
      have hy : yielded ops a.tmps j = match u with | .bool b => some b | _ => none := by
        simp only [yielded, hj, Option.bind_some, q2]
        cases u <;> rfl
      cases v
      case bool b =>
        simp only [VR] at q3; subst q3
        simp only at hy ⊢
        have hwant : Region.wanted o (yielded ops a.tmps) = decide (b = want) := by
          simp only [Region.wanted, hgd, hy]
          cases b <;> cases want <;> rfl
        rw [hwant]
        cases b <;> cases want <;> simp
      case any => exact absurd rfl hn
      all_goals
        have hu : ∀ b, u ≠ .bool b := fun b hb => by subst hb; rcases VR_bool_not q3 with h | h <;> cases h
        have hy' : yielded ops a.tmps j = none := by rw [hy]; cases u <;> first | rfl | exact absurd rfl (hu _)
        exact .inr ⟨rfl, by simp [Region.wanted, hgd, hy']⟩
    · rw [q1]
      have hy' : yielded ops a.tmps j = none := by simp only [yielded, hj, Option.bind_some, q2]
      exact .inr ⟨rfl, by simp [Region.wanted, hgd, hy']⟩
theorem Wg_cases {o : CO} {K : List AV → AH → Prop} (hk : Wg P o σ h K) : (gV σ o.guard = some true ∧ Wop P o.op o.dst σ h K) ∨ (gV σ o.guard = some false ∧ K (putA σ o.dst undefA) h) := by
  unfold Wg effOp at hk
  cases e : gV σ o.guard with
  | none => rw [e] at hk; obtain ⟨r, hr, _⟩ := hk; simp [xop] at hr
  | some b =>
    rw [e] at hk
    cases b
    · right
      obtain ⟨r, hr, hk⟩ := hk
      simp only [xop, Option.some.injEq] at hr; subst hr
      exact ⟨rfl, by rwa [putL_put] at hk⟩
    · exact .inl ⟨rfl, hk⟩
theorem wops_sound {ops : Array Oper} {mvs : List Nat} {Q : Exit → Act → World → Prop} {K : List AV → AH → Prop} : ∀ {l : List Oper} {k : Nat} {cos : List CO} {g : Gh} {σ : List AV} {h : AH} {a : Act} {w : World}, compOps P ops mvs k l = some cos → SR ds w0 g n σ h a w → Wops P cos σ h K →
    (∀ g' σ' h' a' w', K σ' h' → g.le g' → Keep n g w g' w' → SR ds w0 g' n σ' h' a' w' → Q .normal a' w') → wpList P ops Q l a w
  | [], k, cos, g, σ, h, a, w, hc, hs, hk, hQ => by
    simp only [compOps, Option.some.injEq] at hc; subst hc
    exact hQ g σ h a w hk (Gh.le.refl g) (Keep.refl _ _ _) hs
  | o :: l, k, cos, g, σ, h, a, w, hc, hs, hk, hQ => by
    simp only [compOps] at hc
    split at hc <;> cases hc
    rename_i op gd cos' h1 h2 h3
    simp only [Wops] at hk
    have run : Wop P op o.dst σ h (fun σ' h' => Wops P cos' σ' h' K) → o.wp P a w (wpList P ops Q l) Q := by
      intro hw
      have := compOp_sound (Q := Q) h1 hs hw
      unfold Oper.wp at this ⊢
      -- the continuation, weakened
      have mono : ∀ r, o.upon P a (OpPost ds w0 g n w fun σ' h' => Wops P cos' σ' h' K) Q r → o.upon P a (wpList P ops Q l) Q r := by
        have hnext : ∀ a' w', OpPost ds w0 g n w (fun σ' h' => Wops P cos' σ' h' K) a' w' → wpList P ops Q l a' w' := by
          rintro a' w' ⟨g', σ', h', q, lg, k, s⟩
          exact wops_sound h3 s q fun g2 σ2 h2 a2 w2 q2 l2 k2 s2 => hQ g2 σ2 h2 a2 w2 q2 (lg.trans l2) (k.trans k2) s2
        intro r hr
        cases r with
        | ok x w' =>
          cases x <;> first | exact hnext _ _ hr | skip
          · exact Calls.mono hr fun e w'' he => by cases e <;> first | exact hnext _ _ he | exact he
          all_goals first | exact hr | (exact Rows.mono hr fun v w'' he => hnext _ _ he) | (exact hr.elim)
        | halt x w' => cases x <;> exact hr
      exact mono _ this
    have skp : Wops P cos' (putA σ o.dst undefA) h K → wpList P ops Q l (a.put o.dst undef) w := fun hw => wops_sound h3 (hs.skip o.dst) hw hQ
    simp only [wpList]
    rcases Wg_cases hk with ⟨q1, q2⟩ | ⟨q1, q2⟩
    · have hwant := (guard_cases (o := o) hs.vl h2 (by simp only at q1; rw [q1]; simp)).resolve_right (fun x => by simp only at q1; rw [q1] at x; simp at x)
      rw [if_pos hwant.2]
      exact .inl (run q2)
    · have hwant := (guard_cases (o := o) hs.vl h2 (by simp only at q1; rw [q1]; simp)).resolve_left (fun x => by simp only at q1; rw [q1] at x; simp at x)
      rw [hwant.2]
      simp only [Bool.false_eq_true, if_false]
      exact skp q2
end
end Go.Proofs.YtibchilpaaiecaaGreatDoor.M
