/- Operations, lists of operations: what is compiled speaks of the machine. -/
import Derived.Test.YtlehlpbhkfmkaaaM11
set_option linter.unusedVariables false
set_option linter.unusedSimpArgs false
namespace Go.Proofs.Ytlehlpbhkfmkaaa.M
open Go.RowKit

theorem bndE_eq (σ : List AV) (o : Option Opd) : bndE (evalO σ) o = bndA σ o := by cases o <;> rfl

section
variable {P : Program} {w0 w : World} {g : Gh} {h : AH} {n : Nat → Nat} {σ : List AV} {a : Act}

theorem VR_bool_not {v : AV} {b : Bool} (hv : VR g v (.bool b)) : v = .bool b ∨ v = .any := by
  cases v <;> simp only [VR] at hv
  case bool => cases hv; exact .inl rfl
  case any => exact .inr rfl
  case bs => obtain ⟨_, _, _, _, h, _⟩ := hv; cases h
  case box => obtain ⟨_, _, h⟩ := hv; cases h
  case ref => obtain ⟨_, _, h, _⟩ := hv; cases h
  case sl => rcases hv with ⟨_, _, _, h⟩ | ⟨_, _, _, h, _⟩ <;> cases h
  case agg => obtain ⟨_, h, _⟩ := hv; cases h
  case tup => obtain ⟨_, h, _⟩ := hv; cases h
  case iface => obtain ⟨_, h, _⟩ := hv; cases h
  case fn => obtain ⟨_, _, h, _⟩ := hv; cases h
  case mp => obtain ⟨_, _, h⟩ := hv; cases h
  all_goals cases hv

theorem tmps_get (hs : VL g σ a.tmps.toList) (s : Nat) : (∃ v u, σ[s]? = some v ∧ a.tmps[s]? = some u ∧ VR g v u) ∨ (σ[s]? = none ∧ a.tmps[s]? = none) := by
  cases e : σ[s]? with
  | none =>
    right
    have := VL.length hs
    rw [List.getElem?_eq_none_iff] at e
    refine ⟨rfl, ?_⟩
    rw [Array.getElem?_eq_none_iff]
    rw [Array.length_toList] at this; omega
  | some v =>
    left
    obtain ⟨u, hu, hv⟩ := VL.get hs e
    exact ⟨v, u, rfl, by simpa using hu, hv⟩

theorem SR.skip (hs : SR w0 g n σ h a w) (d : Option Nat) : SR w0 g n (putA σ d undefA) h (a.put d undef) w := hs.put d (VR_undef g) rfl


theorem compOp_sound {o : Oper} {mv : Bool} {c : COp} (hc : compOp P mv o.op = some c) {K : List AV → AH → Prop} {Q : Exit → Act → World → Prop} (hs : SR w0 g n σ h a w) (hk : Wop P c o.dst σ h K) : o.wp P a w (OpPost w0 g n w K) Q := by
  unfold compOp at hc
  split at hc
  · -- move
    rename_i x hop
    split at hc <;> cases hc
    rename_i y hy
    cases mv
    · obtain ⟨r, hr, hk⟩ := hk
      simp only [xop, Bool.false_eq_true, if_false, Option.some.injEq] at hr; subst hr
      exact mov_sound (.inl hop) hy hs (by rwa [putL_put] at hk)
    · obtain ⟨r, hr, hk⟩ := hk
      simp only [xop, if_true, Option.some.injEq] at hr; subst hr
      exact take_sound (.inr hop) hy hs (by rwa [putL_append, putL_take, putL_put, ← moveO_1] at hk)
  · rename_i x hop
    split at hc <;> cases hc
    rename_i y hy
    cases mv
    · obtain ⟨r, hr, hk⟩ := hk
      simp only [xop, Bool.false_eq_true, if_false, Option.some.injEq] at hr; subst hr
      exact mov_sound (.inr hop) hy hs (by rwa [putL_put] at hk)
    · obtain ⟨r, hr, hk⟩ := hk
      simp only [xop, if_true, Option.some.injEq] at hr; subst hr
      exact take_sound (.inl hop) hy hs (by rwa [putL_append, putL_take, putL_put, ← moveO_1] at hk)
  · rename_i c x y hop
    split at hc <;> cases hc
    rename_i c' x' y' h1 h2 h3
    obtain ⟨v, hv, hk⟩ := val_inv hk
    exact pick_sound hop h1 h2 h3 hs (pick_br (K := fun v => K (putA σ o.dst v) h) hv hk)
  · rename_i e hop
    split at hc <;> try (cases hc; done)
    rename_i i hi
    split at hc <;> try (cases hc; done)
    rename_i z hz
    split at hc <;> cases hc
    rename_i cs hcs
    obtain ⟨r, hr, hk⟩ := hk
    simp only [xop, Option.some.injEq] at hr; subst hr
    exact alloc_sound hop hi hz hcs hs (by rwa [putL_put] at hk)
  · rename_i e x hop
    split at hc <;> cases hc
    rename_i y hy
    obtain ⟨r, hr, hk⟩ := hk
    simp only [xop] at hr
    split at hr <;> cases hr
    rename_i ho
    rw [← moveO_1] at ho
    exact box_sound hop hy hs ho (by rw [putL_append, putL_take, putL_put, ← moveO_1] at hk; exact hk)
  · rename_i t x hop
    split at hc <;> cases hc
    rename_i m y hm hy
    exact op_pure hs (s := Instr.loadAt t (a.eval x)) (by simp [execOp, hop]) (by
      obtain ⟨v, hv, hk⟩ := val_inv hk
      exact loadVar_sound hs.inv (varOf_IsVar hm) (compO_VR hs.vl hy) (load_br (K := fun v => K (putA σ o.dst v) h) hv hk))
  · rename_i t x v hop
    split at hc <;> cases hc
    rename_i N x' v' h1 h2 h3
    obtain ⟨r, hr, hk⟩ := hk
    simp only [xop] at hr
    split at hr <;> try (cases hr; done)
    rename_i hd
    simp only [Option.map_eq_some_iff] at hr
    obtain ⟨hh, hv, rfl⟩ := hr
    refine store_sound hop hd h2 h3 h1 hs ?_
    unfold storeW
    rw [moveO_1]
    generalize evalO σ x' = p at *
    cases p <;> simp only [storeV] at hv <;> try (cases hv; done)
    rename_i id off
    simp only [Option.map_eq_some_iff] at hv
    obtain ⟨b, hb, rfl⟩ := hv
    cases e : h[id]? with
    | none => rw [e] at hb; cases hb
    | some bx =>
      rw [e] at hb
      cases bx <;> simp only [storeB] at hb <;> try (cases hb; done)
      split at hb <;> cases hb
      rename_i hcc
      exact ⟨_, e, hcc.1, hcc.2.1, hcc.2.2, by rwa [putL_take] at hk⟩
  · rename_i x hop
    split at hc <;> cases hc
    rename_i y hy
    obtain ⟨v, hv, hk⟩ := val_inv hk
    exact nilck_sound hop hy hs (nilck_br (K := fun v => K (putA σ o.dst v) h) hv hk)
  · rename_i op t x y u hop
    split at hc
    · cases hc; rename_i h1 h2 h3; obtain ⟨v, hv, hk⟩ := val_inv hk; exact bin_op hop h2 h3 hs (bin_br (K := fun v => K (putA σ o.dst v) h) hv hk)
    · cases hc; rename_i h1 h2 h3; obtain ⟨v, hv, hk⟩ := val_inv hk; exact bin_op hop h2 h3 hs (bin_br (K := fun v => K (putA σ o.dst v) h) hv hk)
    · rename_i fs x' y' h1 h2 h3
      split at hc <;> cases hc
      rename_i neg idx hneg hidx
      have hn : op = if neg then .neq else .eql := by cases op <;> simp [eqOp] at hneg <;> subst hneg <;> rfl
      obtain ⟨v, hv, hk⟩ := val_inv hk
      exact eqs_sound hop hn h2 h3 hidx hs hv hk
    · rename_i d h1 _ _ _; exact compEq_sound hc h1 hop hs (by
        unfold compEq at hc
        split at hc <;> try (cases hc; done)
        split at hc
        · split at hc <;> cases hc; exact hk
        · split at hc
          · split at hc <;> cases hc; exact hk
          · split at hc <;> try (cases hc; done)
            split at hc <;> cases hc; exact hk
        · split at hc <;> try (cases hc; done)
          split at hc
          · split at hc <;> cases hc; exact hk
          · split at hc <;> try (cases hc; done)
            split at hc <;> cases hc; exact hk)
    · cases hc
  · rename_i op t x hop
    split at hc <;> cases hc
    rename_i y hy
    exact op_pure hs (s := Op.unary op (a.eval x)) (by simp [execOp, hop]) (by
      obtain ⟨v, hv, hk⟩ := val_inv hk
      exact un_sound (compO_VR hs.vl hy) (un_br (K := fun v => K (putA σ o.dst v) h) hv hk))
  · rename_i s d x hop
    split at hc <;> try (cases hc; done)
    rename_i y hy
    have vy := compO_VR hs.vl hy
    have he : (execOp a.eval o).run P w = ((convert s d (a.eval x)).run P w).andThen fun v w => .ok (.value v) w := by simp [execOp, hop]
    unfold compConv at hc
    split at hc
    · rename_i d1 k h1 h2
      cases hc
      obtain ⟨v, hv, hk⟩ := val_inv hk
      exact op_pure hs he (convInt_sound h1 h2 vy (cInt_br (K := fun v => K (putA σ o.dst v) h) hv hk))
    · rename_i e h1 h2
      split at hc <;> cases hc
      rename_i h3
      obtain ⟨v, hv, hk⟩ := val_inv hk
      exact op_pure hs he (bytesStr_sound hs.inv h1 h3 h2 vy (bytes_br (K := fun v => K (putA σ o.dst v) h) hv hk))
    · rename_i h1 h2
      cases hc
      obtain ⟨v, hv, hk⟩ := val_inv hk
      exact op_pure hs he (convStr_sound h1 h2 vy (cStr_br (K := fun v => K (putA σ o.dst v) h) hv hk))
    · rename_i e h1 h2
      split at hc <;> cases hc
      rename_i h3
      obtain ⟨v, hv, hk⟩ := val_inv hk
      have hb : ∃ b, evalO σ y = .str b ∧ v = .sl .sh (b.data.toList.map encB) := by
        generalize evalO σ y = p at *
        cases p <;> simp only [strBytesV] at hv <;> cases hv
        exact ⟨_, rfl, rfl⟩
      obtain ⟨b, hb, rfl⟩ := hb
      exact strBytes_sound hop hy h1 h2 h3 hs hb hk
    · rename_i e1 e h1 h2
      split at hc <;> try (cases hc; done)
      rename_i hsd
      subst hsd
      split at hc <;> cases hc
      rename_i h3
      obtain ⟨r, hr, hk⟩ := hk
      simp only [xop, Option.map_eq_some_iff] at hr
      obtain ⟨v, hv, rfl⟩ := hr
      refine bconv_sound hop hy h2 h3 hs ?_
      unfold bconvW
      rw [moveO_1]
      rw [putL_append, putL_take, putL_put] at hk
      generalize evalO σ y = p at *
      cases p <;> simp only [bconvV] at hv <;> try (cases hv; done)
      rename_i m es
      cases m <;> simp only [bconvV] at hv <;> cases hv
      exact hk
    · cases hc
  · rename_i s x f hop
    split at hc <;> try (cases hc; done)
    rename_i fs y h1 h2
    split at hc <;> try (cases hc; done)
    rename_i fd h3
    split at hc <;> cases hc
    rename_i k h4
    exact op_pure hs (s := Instr.fieldAt s (a.eval x) f) (by simp [execOp, hop]) (by
      obtain ⟨v, hv, hk⟩ := val_inv hk
      exact faddr_sound h1 h3 h4 (by omega) (compO_VR hs.vl h2) (faddr_br (K := fun v => K (putA σ o.dst v) h) hv hk))
  · rename_i s x f hop
    split at hc <;> try (cases hc; done)
    rename_i fs y h1 h2
    split at hc <;> try (cases hc; done)
    rename_i fd h3
    split at hc <;> cases hc
    rename_i m h4
    exact op_pure hs (s := Instr.field s (a.eval x) f) (by simp [execOp, hop]) (by
      obtain ⟨v, hv, hk⟩ := val_inv hk
      exact field_sound h1 h3 (varOf_IsVar h4) (compO_VR hs.vl h2) (field_br (K := fun v => K (putA σ o.dst v) h) hv hk))
  · rename_i t x i hop
    split at hc <;> try (cases hc; done)
    · rename_i e x' i' h1 h2 h3
      split at hc <;> cases hc
      rename_i S h4
      obtain ⟨v, hv, hk⟩ := val_inv hk
      have vx := compO_VR (a := a) hs.vl h2
      have vi := compO_VR (a := a) hs.vl h3
      generalize evalO σ x' = p at *
      generalize evalO σ i' = q at *
      refine op_pure hs (s := Instr.indexAt t (a.eval x) (a.eval i)) (by simp [execOp, hop]) ?_
      cases p <;> cases q <;> simp only [iaddrV] at hv <;> try (cases hv; done)
      · rename_i m es k j
        split at hv <;> try (cases hv; done)
        rename_i hcc
        refine iaddr_slice (K := fun v => K (putA σ o.dst v) h) h1 h4 vx vi ⟨rfl, hcc.2, ?_⟩
        cases e2 : es[j.toNat]? with
        | none => rw [e2] at hv; cases hv
        | some ee =>
          rw [e2] at hv
          simp only [elemV] at hv
          split at hv <;> cases hv
          rename_i hl
          exact ⟨ee, rfl, hl, hk⟩
      · rename_i id off len cap k j
        split at hv <;> cases hv
        rename_i hcc
        exact iaddr_bs (K := fun v => K (putA σ o.dst v) h) h1 h4 vx vi hcc.2.1 hcc.2.2 hk
    · rename_i nn e x' i' h1 h2 h3
      split at hc <;> cases hc
      rename_i S h4
      obtain ⟨v, hv, hk⟩ := val_inv hk
      have vx := compO_VR (a := a) hs.vl h2
      have vi := compO_VR (a := a) hs.vl h3
      generalize evalO σ x' = p at *
      generalize evalO σ i' = q at *
      refine op_pure hs (s := Instr.indexAt t (a.eval x) (a.eval i)) (by simp [execOp, hop]) (iaddr_array (K := fun v => K (putA σ o.dst v) h) h1 h4 vx vi ?_)
      cases p <;> cases q <;> simp only [iaddrV] at hv <;> try (cases hv; done)
      all_goals first
        | (simp at hv; done)
        | (split at hv <;> cases hv
           rename_i hcc
           first | exact ⟨hcc.1, hcc.2, hk⟩ | (simp at hcc; done))
  · rename_i t x i hop
    split at hc <;> cases hc
    rename_i x' i' h1 h2 h3
    obtain ⟨v, hv, hk⟩ := val_inv hk
    have vx := compO_VR (a := a) hs.vl h2
    have vi := compO_VR (a := a) hs.vl h3
    generalize evalO σ x' = p at *
    generalize evalO σ i' = q at *
    cases p <;> cases q <;> simp only [idxsV] at hv <;> try (cases hv; done)
    rename_i s k j
    split at hv <;> try (cases hv; done)
    rename_i h0
    cases e : s[j.toNat]? with
    | none => rw [e] at hv; cases hv
    | some b =>
      rw [e] at hv; cases hv
      exact op_pure hs (s := Instr.index t (a.eval x) (a.eval i)) (by simp [execOp, hop]) (idx_str (K := fun v => K (putA σ o.dst v) h) (S := 0) (N := 0) h1 vx vi ⟨h0, b, e, hk⟩ ⟨s, rfl⟩)
  · rename_i t i hop
    cases hc
    obtain ⟨r, hr, hk⟩ := hk
    simp only [xop, Option.map_eq_some_iff] at hr
    obtain ⟨u, hu, rfl⟩ := hr
    refine extract_sound hop hs ?_
    unfold extractW
    simp only [evalO] at hu
    have htl : ∀ cs, σ.getD t undefA = .tup cs → cs ≠ [] → t < σ.length := by
      intro cs hcs hne
      rcases Nat.lt_or_ge t σ.length with hlt | hge
      · exact hlt
      · rw [List.getD, List.getElem?_eq_none hge] at hcs
        simp only [Option.getD_none, undefA, AV.tup.injEq] at hcs
        exact absurd hcs.symm hne
    generalize σ.getD t undefA = p at *
    cases p <;> simp only [extractV] at hu <;> try (cases hu; done)
    rename_i cs
    cases e : cs[i]? with
    | none => rw [e] at hu; cases hu
    | some c =>
      rw [e] at hu; cases hu
      refine ⟨htl cs rfl (by rintro rfl; simp at e), c, e, ?_⟩
      simp only [putL, putL_put] at hk; exact hk
  · rename_i t x hop
    split at hc <;> cases hc
    rename_i d y hne h1 h2
    obtain ⟨r, hr, hk⟩ := hk
    simp only [xop, Option.some.injEq] at hr; subst hr
    exact mkif_sound hop h2 h1 (fun ms hd => hne ms (by rw [hd])) hs (by rwa [putL_put] at hk)
  · rename_i f x y hop
    split at hc <;> cases hc
    rename_i l1 l2 h1 h2
    obtain ⟨r, hr, hk⟩ := hk
    simp only [xop, Option.some.injEq] at hr; subst hr
    exact mkfn_sound hop h1 h2 hs (by rwa [putL_put] at hk)
  · rename_i t x lo hi mx hop
    split at hc <;> try (cases hc; done)
    · rename_i x' lo' hi' h1 h2 h3 h4 h5
      cases hc
      obtain ⟨v, hv, hk⟩ := val_inv hk
      have vx := compO_VR (a := a) hs.vl h2
      have hmx : mx = none := by
        cases mx with
        | none => rfl
        | some z => simp only [compOo] at h5; split at h5 <;> cases h5
      subst hmx
      simp only [bndE_eq] at hv
      generalize evalO σ x' = p at *
      cases e1 : bndA σ lo' with
      | none => rw [e1] at hv; cases p <;> simp [sliceV] at hv
      | some l =>
        cases e2 : bndA σ hi' with
        | none => rw [e1, e2] at hv; cases p <;> simp [sliceV] at hv
        | some r =>
          rw [e1, e2] at hv
          have e3 : bndA σ none = some none := rfl
          rw [e3] at hv
          cases p <;> simp only [sliceV] at hv <;> try (cases hv; done)
          rename_i s
          split at hv <;> cases hv
          rename_i hcc
          simp only [VR] at vx
          exact op_pure hs (s := Instr.sliceAt t (a.eval x) (lo.map a.eval) (hi.map a.eval) none) (by simp [execOp, hop])
            (by rw [vx]; exact slice_str (K := fun v => K (putA σ o.dst v) h) (S := 0) h1 (bnd_R hs.vl h3 e1) (bnd_R hs.vl h4 e2) ⟨rfl, hcc.2.1, hcc.2.2.1, hcc.2.2.2, hk⟩)
    · rename_i e x' lo' hi' mx' h1 h2 h3 h4 h5
      split at hc <;> cases hc
      rename_i S h6
      obtain ⟨v, hv, hk⟩ := val_inv hk
      have vx := compO_VR (a := a) hs.vl h2
      simp only [bndE_eq] at hv
      generalize evalO σ x' = p at *
      cases e1 : bndA σ lo' with
      | none => rw [e1] at hv; cases p <;> simp [sliceV] at hv
      | some l =>
        cases e2 : bndA σ hi' with
        | none => rw [e1, e2] at hv; cases p <;> simp [sliceV] at hv
        | some r =>
          cases e3 : bndA σ mx' with
          | none => rw [e1, e2, e3] at hv; cases p <;> cases r <;> simp [sliceV] at hv
          | some M =>
            rw [e1, e2, e3] at hv
            have key : sliceAV S l r M (fun v => K (putA σ o.dst v) h) p ∧ ∃ m es, p = .sl m es := by
              cases p <;> try (cases M <;> cases r <;> simp [sliceV] at hv; done)
              rename_i m es
              refine ⟨?_, _, _, rfl⟩
              cases M with
              | none =>
                simp only [sliceV] at hv
                split at hv <;> cases hv
                rename_i hcc
                exact ⟨hcc.1, hcc.2.1, hcc.2.2.1, szOK_of vx hcc.2.2.2, hk⟩
              | some M =>
                cases r with
                | none => simp [sliceV] at hv
                | some r =>
                  simp only [sliceV] at hv
                  split at hv <;> cases hv
                  rename_i hcc
                  exact ⟨hcc.1, hcc.2.1, hcc.2.2.1, szOK_of vx hcc.2.2.2.1, rfl, hcc.2.2.2.2.1, hcc.2.2.2.2.2, hk⟩
            obtain ⟨key, m, es, rfl⟩ := key
            exact op_pure hs (s := Instr.sliceAt t (a.eval x) (lo.map a.eval) (hi.map a.eval) (mx.map a.eval)) (by simp [execOp, hop])
              (slice_slice h1 h6 (bnd_R hs.vl h3 e1) (bnd_R hs.vl h4 e2) (bnd_R hs.vl h5 e3) vx key ⟨m, es, rfl⟩)
  · rename_i t parts hop
    split at hc <;> cases hc
    rename_i z ps h1
    obtain ⟨v, hv, hk⟩ := val_inv hk
    exact build_sound hop h1 hs (build_br (K := fun v => K (putA σ o.dst v) h) hv hk)
  · rename_i t len parts hop
    split at hc <;> cases hc
    rename_i S xs h1
    obtain ⟨v, hv, hk⟩ := val_inv hk
    simp only [bsliceV] at hv
    split at hv <;> cases hv
    rename_i hcc
    refine bslice_sound hop h1 hs (fun ht hn => hcc.1 ht ?_) (allSz_of hcc.2) hk
    rw [hn]; rfl
  · rename_i t nn c hop
    split at hc <;> try (cases hc; done)
    rename_i e n' c' h1 h2 h3
    split at hc <;> try (cases hc; done)
    rename_i i hi
    split at hc <;> try (cases hc; done)
    rename_i z hz
    split at hc <;> try (cases hc; done)
    rename_i cs hcs
    split at hc <;> cases hc
    rename_i hsz
    obtain ⟨r, hr, hk⟩ := hk
    simp only [xop, Option.map_eq_some_iff] at hr
    obtain ⟨r', hv, rfl⟩ := hr
    exact mkslice_sound hop h1 h2 h3 hi hz hcs hsz hs hv (by rwa [putL_put] at hk)
  · rename_i t hop
    cases hc
    obtain ⟨r, hr, hk⟩ := hk
    simp only [xop, Option.some.injEq] at hr; subst hr
    exact mkmap_sound hop hs (by rwa [putL_put] at hk)
  · rename_i t x i ok hop
    split at hc <;> try (cases hc; done)
    rename_i kt et x' i' h1 h2 h3
    split at hc <;> try (cases hc; done)
    rename_i d inf hd hi
    split at hc <;> try (cases hc; done)
    rename_i z hz
    split at hc <;> cases hc
    rename_i za hza
    obtain ⟨v, hv, hk⟩ := val_inv hk
    obtain ⟨z1, z2⟩ := zeroA_VR (g := g) hza
    exact op_pure hs (s := Instr.lookup t (a.eval x) (a.eval i) ok) (by simp [execOp, hop]) (look_sound (K := fun v => K (putA σ o.dst v) h) hs.inv h1 hd (fun w => by simp [zeroValue, typeInfo, hi, hz]) z1 z2 (compO_VR (a := a) hs.vl h2) (compO_VR (a := a) hs.vl h3) hv hk)
  · rename_i t m k x hop
    split at hc <;> try (cases hc; done)
    rename_i kt et m' k' x' h1 h2 h3 h4
    split at hc <;> cases hc
    rename_i d hd
    obtain ⟨r, hr, hk⟩ := hk
    simp only [xop] at hr
    split at hr <;> try (cases hr; done)
    rename_i hdst
    simp only [Option.map_eq_some_iff] at hr
    obtain ⟨h', hv, rfl⟩ := hr
    exact mput_sound hop hdst h1 hd h2 h3 h4 hs hv hk
  · rename_i c hop
    exact compCall_sound hc hop hs hk
  · cases hc

/-! ### guards -/
/-- Is the operation carried out? 'none': it isn't known. -/
def gV (σ : List AV) : Option (Nat × Bool) → Option Bool
  | none => some true
  | some (s, want) => match σ[s]? with | some (.bool b) => some (b == want) | some .any => none | _ => some false
/-- What an operation comes to under its guard. -/
def effOp (o : CO) (σ : List AV) : COp := match gV σ o.guard with | some true => o.op | some false => .mov (.con undefA) | none => .stuck
def Wg (P : Program) (o : CO) (σ : List AV) (h : AH) (K : List AV → AH → Prop) : Prop := Wop P (effOp o σ) o.dst σ h K
def Wops (P : Program) : List CO → List AV → AH → (List AV → AH → Prop) → Prop
  | [], σ, h, K => K σ h
  | o :: rest, σ, h, K => Wg P o σ h (fun σ' h' => Wops P rest σ' h' K)

/-- What a guard is, in the machine. -/
theorem guard_cases {ops : Array Oper} {o : Oper} {gd : Option (Nat × Bool)} (hs : VL g σ a.tmps.toList) (h2 : compGuard ops o.guard = some gd) (hn : gV σ gd ≠ none) :
    (gV σ gd = some true ∧ Region.wanted o (yielded ops a.tmps) = true) ∨ (gV σ gd = some false ∧ Region.wanted o (yielded ops a.tmps) = false) := by
  cases hgd : o.guard with
  | none =>
    simp only [hgd, compGuard, Option.some.injEq] at h2; subst h2
    exact .inl ⟨rfl, by simp [Region.wanted, hgd]⟩
  | some jw =>
    obtain ⟨j, want⟩ := jw
    simp only [hgd, compGuard] at h2
    split at h2 <;> cases h2
    rename_i s hj
    simp only [gV] at hn ⊢
    rcases tmps_get hs s with ⟨v, u, q1, q2, q3⟩ | ⟨q1, q2⟩
    · rw [q1] at hn ⊢
      have hy : yielded ops a.tmps j = match u with | .bool b => some b | _ => none := by
        simp only [yielded, hj, Option.bind_some, q2]
        cases u <;> rfl
      cases v
      case bool b =>
        simp only [VR] at q3; subst q3
        simp only at hy ⊢
        have hwant : Region.wanted o (yielded ops a.tmps) = decide (b = want) := by
          simp only [Region.wanted, hgd, hy]
          cases b <;> cases want <;> rfl
        rw [hwant]
        cases b <;> cases want <;> simp
      case any => exact absurd rfl hn
      all_goals
        have hu : ∀ b, u ≠ .bool b := fun b hb => by subst hb; rcases VR_bool_not q3 with h | h <;> cases h
        have hy' : yielded ops a.tmps j = none := by rw [hy]; cases u <;> first | rfl | exact absurd rfl (hu _)
        exact .inr ⟨rfl, by simp [Region.wanted, hgd, hy']⟩
    · rw [q1]
      have hy' : yielded ops a.tmps j = none := by simp only [yielded, hj, Option.bind_some, q2]
      exact .inr ⟨rfl, by simp [Region.wanted, hgd, hy']⟩

theorem Wg_cases {o : CO} {K : List AV → AH → Prop} (hk : Wg P o σ h K) : (gV σ o.guard = some true ∧ Wop P o.op o.dst σ h K) ∨ (gV σ o.guard = some false ∧ K (putA σ o.dst undefA) h) := by
  unfold Wg effOp at hk
  cases e : gV σ o.guard with
  | none => rw [e] at hk; obtain ⟨r, hr, _⟩ := hk; simp [xop] at hr
  | some b =>
    rw [e] at hk
    cases b
    · right
      obtain ⟨r, hr, hk⟩ := hk
      simp only [xop, Option.some.injEq] at hr; subst hr
      exact ⟨rfl, by rwa [putL_put] at hk⟩
    · exact .inl ⟨rfl, hk⟩

theorem wops_sound {ops : Array Oper} {mvs : List Nat} {Q : Exit → Act → World → Prop} {K : List AV → AH → Prop} : ∀ {l : List Oper} {k : Nat} {cos : List CO} {g : Gh} {σ : List AV} {h : AH} {a : Act} {w : World}, compOps P ops mvs k l = some cos → SR w0 g n σ h a w → Wops P cos σ h K →
    (∀ g' σ' h' a' w', K σ' h' → g.le g' → Keep n g w g' w' → SR w0 g' n σ' h' a' w' → Q .normal a' w') → wpList P ops Q l a w
  | [], k, cos, g, σ, h, a, w, hc, hs, hk, hQ => by
    simp only [compOps, Option.some.injEq] at hc; subst hc
    exact hQ g σ h a w hk (Gh.le.refl g) (Keep.refl _ _ _) hs
  | o :: l, k, cos, g, σ, h, a, w, hc, hs, hk, hQ => by
    simp only [compOps] at hc
    split at hc <;> cases hc
    rename_i op gd cos' h1 h2 h3
    simp only [Wops] at hk
    have run : Wop P op o.dst σ h (fun σ' h' => Wops P cos' σ' h' K) → o.wp P a w (wpList P ops Q l) Q := by
      intro hw
      have := compOp_sound (Q := Q) h1 hs hw
      unfold Oper.wp at this ⊢
      -- the continuation, weakened
      have mono : ∀ r, o.upon P a (OpPost w0 g n w fun σ' h' => Wops P cos' σ' h' K) Q r → o.upon P a (wpList P ops Q l) Q r := by
        have hnext : ∀ a' w', OpPost w0 g n w (fun σ' h' => Wops P cos' σ' h' K) a' w' → wpList P ops Q l a' w' := by
          rintro a' w' ⟨g', σ', h', q, lg, k, s⟩
          exact wops_sound h3 s q fun g2 σ2 h2 a2 w2 q2 l2 k2 s2 => hQ g2 σ2 h2 a2 w2 q2 (lg.trans l2) (k.trans k2) s2
        intro r hr
        cases r with
        | ok x w' =>
          cases x <;> first | exact hnext _ _ hr | skip
          · exact Calls.mono hr fun e w'' he => by cases e <;> first | exact hnext _ _ he | exact he
          all_goals first | exact hr | (exact Rows.mono hr fun v w'' he => hnext _ _ he) | (exact hr.elim)
        | halt x w' => cases x <;> exact hr
      exact mono _ this
    have skp : Wops P cos' (putA σ o.dst undefA) h K → wpList P ops Q l (a.put o.dst undef) w := fun hw => wops_sound h3 (hs.skip o.dst) hw hQ
    simp only [wpList]
    rcases Wg_cases hk with ⟨q1, q2⟩ | ⟨q1, q2⟩
    · have hwant := (guard_cases (o := o) hs.vl h2 (by simp only at q1; rw [q1]; simp)).resolve_right (fun x => by simp only at q1; rw [q1] at x; simp at x)
      rw [if_pos hwant.2]
      exact .inl (run q2)
    · have hwant := (guard_cases (o := o) hs.vl h2 (by simp only at q1; rw [q1]; simp)).resolve_left (fun x => by simp only at q1; rw [q1] at x; simp at x)
      rw [hwant.2]
      simp only [Bool.false_eq_true, if_false]
      exact skp q2

end
end Go.Proofs.Ytlehlpbhkfmkaaa.M
