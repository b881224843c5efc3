/- slices.Clone: a comparison with nil that the machine can't decide, both ways walked. -/
import Derived.Test.YtlehlpbhkfmkaaaM17
set_option linter.all false
namespace Go.Proofs.Ytlehlpbhkfmkaaa.M
open Go.RowKit

section
variable {P : Program} {w0 w : World} {g : Gh} {h : AH} {n : Nat → Nat} {σ : List AV} {a : Act}

/-- A slice is moved to slot 3 and compared with nil into slot 4. -/
theorem region_nil_sound {id : Nat} {o1 o2 : Oper} {t u e : TypeId} {es : List (List AV)} (h1 : o1.op = .move (.tmp 0)) (g1 : o1.guard = none) (d1 : o1.dst = some 3)
    (h2 : o2.op = .binOp .eql t (.tmp 3) (.const (.slice none 0 0)) u) (g2 : o2.guard = none) (d2 : o2.dst = some 4) (ht : P.underlying t = some (.slice e))
    (hs : SR w0 g n σ h a w) (h0 : evalO σ (.tmp 0) = .sl .sh es) (h3 : evalO (putA σ (some 3) (.sl .sh es)) (.tmp 3) = .sl .sh es) {Q : Ex → List AV → AH → Prop} (hQ : ∀ b, (b = true → es = []) → Q .normal (putA (putA σ (some 3) (.sl .sh es)) (some 4) (.bool b)) h) :
    (Code.region id #[o1, o2] false).wp P (Post w0 g n w Q) a w := by
  refine wp_region_list ?_
  have w1 : ∀ y, Region.wanted o1 y = true := fun y => by simp [Region.wanted, g1]
  have w2 : ∀ y, Region.wanted o2 y = true := fun y => by simp [Region.wanted, g2]
  simp only [wpList, w1, w2, if_true]
  left
  have hm : Wop P (.mov (.tmp 0)) o1.dst σ h (fun σ' h' => σ' = putA σ (some 3) (.sl .sh es) ∧ h' = h) := by
    unfold Wop Wu
    simp only [isCall, Bool.false_eq_true, if_false]
    refine ⟨_, rfl, ?_, rfl⟩
    rw [putL_put, d1, h0]; rfl
  refine Oper.wp_mono ?_ (compOp_sound (mv := false) (Q := Post w0 g n w Q) (by rw [h1]; rfl) hs hm)
  rintro a1 wb ⟨g1', σ1, h1', ⟨rfl, rfl⟩, lg1, k1, s1⟩
  left
  refine Oper.wp_mono ?_ (nilcmp_sound (K := fun σ' h' => Q .normal σ' h' ) (neg := false) (d := .slice e) (.inl h2) rfl (x' := .tmp 3) rfl ht rfl s1 (by rw [h3]; rfl) (by
    intro b hb
    rw [h3] at hb
    have := hQ b hb
    rw [d2]
    cases b <;> exact this))
  rintro a2 w2 ⟨g2', σ2, h2', q, lg2, k2, s2⟩
  exact ⟨.normal, g2', σ2, h2', rfl, q, lg1.trans lg2, k1.trans k2, s2⟩

def cloneP (S bytes : Nat) : List AV → AH → Option (AV × AH)
  | [.sl _ es], h => if szOK S es = true ∧ es.length * bytes ≤ 140737488355328 ∧ es.length ≤ 9223372036854775807 then some (ow es, h) else none
  | _, _ => none

theorem den_W {T : Tbl} (hT : ∀ f d, T f = some d → OkDef P f d) {c : CC} {σ : List AV} {h : AH} {e : Ex} {σ' : List AV} {h' : AH} (hd : den T c σ h = some (e, σ', h')) {Q : Ex → List AV → AH → Prop} (hQ : Q e σ' h') : W P c σ h Q := by
  have H : ∃ m r, ev T m c σ h = some r := by
    by_cases H : ∃ m r, ev T m c σ h = some r
    · exact H
    · unfold den at hd; rw [dif_neg H] at hd; cases hd
  obtain ⟨m, r, hr⟩ := H
  have := den_of hr
  rw [hd] at this; cases this
  exact ev_sound hT m _ _ _ _ _ _ _ hr hQ

def noT : Tbl := fun _ => none
theorem noT_ok : ∀ f d, noT f = some d → OkDef P f d := fun f d h => by cases h

theorem clone_ok {S bytes : Nat} {f : FuncId} {fn : Func} {c0 X B : Code} {id : Nat} {o1 o2 : Oper} {t u e : TypeId} {hs0 hs1 hs2 hs3 hs4 hs5 : HL}
    (hf : P.funcs[f]? = some fn) (hb : fn.body = some (.seq c0 (.seq (.seq (.region id #[o1, o2] false) (.cond (.tmp 4) X .skip)) B))) (hname : (fn.name == "runtime.NumGoroutine") = false) (hn : fn.ntmps = 8)
    (hr : fn.results.toList.mapM (compRV P) = some [.tmp 2]) (h1 : o1.op = .move (.tmp 0)) (g1 : o1.guard = none) (d1 : o1.dst = some 3)
    (h2 : o2.op = .binOp .eql t (.tmp 3) (.const (.slice none 0 0)) u) (g2 : o2.guard = none) (d2 : o2.dst = some 4) (ht : P.underlying t = some (.slice e))
    (c0c : compC P c0 hs0 = some (.region [⟨some 2, .take (.con (.sl .ex [])), none⟩], hs1)) (cX : compC P X hs2 = some (.seq (.region [⟨some 2, .take (.con (.sl .ex [])), none⟩]) .ret, hs3))
    (cB : compC P B hs4 = some (.seq (.region [⟨some 5, .bslice S false [], none⟩, ⟨some 6, .take (.tmp 0), none⟩, ⟨some 7, .append S bytes false (.tmp 5) (.tmp 6), none⟩, ⟨some 2, .take (.tmp 7), none⟩]) .ret, hs5)) :
    OkDef P f (.prim (cloneP S bytes)) := by
  intro args h r h' hp K hK
  unfold cloneP at hp
  split at hp <;> try (cases hp; done)
  rename_i m es
  split at hp <;> cases hp
  rename_i hc
  refine ⟨⟨fn, hf, by simp [hb], hname⟩, ?_, _, _, hK⟩
  -- the argument, shared
  have key : Spec P f [.sl .sh es] h K := by
    refine spec_of_wp hf hb hr fun w0 g n a w hs => ?_
    rw [hn] at hs
    refine wp_seq (wp_mono (W_sound c0c hs (den_W (T := noT) noT_ok (e := .normal) (σ' := [.sl .sh es, undefA, .sl .ex [], undefA, undefA, undefA, undefA, undefA]) (h' := h) (by simp only [List.length_cons, List.length_nil]; simp -implicitDefEqProofs (disch := (refine id_ok ?_; first | assumption | omega | (simp only [AV.mr, mrL, mrLL, mrB, mr_enc, shL, AV.sh, AV.cells, onesL, AV.one, szOK_enc, szOK_nil, szOK_cons, List.map_cons, List.map_nil, List.length_cons, List.length_nil, List.length_map, List.length_append, List.length_take, List.length_drop, Nat.max_self, Nat.zero_max, Nat.max_zero, Nat.zero_le, Nat.le_refl, Bool.and_self, Bool.true_and, Bool.and_true, beq_self_eq_true, and_self, true_and, and_true, Nat.reduceAdd, Nat.reduceEqDiff, Nat.reduceLeDiff, ow_sh, ow_cells, ow_one, ow_mr, mrLL_app, keyD_i, keyD_s, keyD_b] <;> fail) | (simp only [AV.mr, mrL, mrLL, mrB, mr_enc, shL, AV.sh, AV.cells, onesL, AV.one, szOK_enc, szOK_nil, szOK_cons, List.map_cons, List.map_nil, List.length_cons, List.length_nil, List.length_map, List.length_append, List.length_take, List.length_drop, Nat.max_self, Nat.zero_max, Nat.max_zero, Nat.zero_le, Nat.le_refl, Bool.and_self, Bool.true_and, Bool.and_true, beq_self_eq_true, and_self, true_and, and_true, Nat.reduceAdd, Nat.reduceEqDiff, Nat.reduceLeDiff, ow_sh, ow_cells, ow_one, ow_mr, mrLL_app, keyD_i, keyD_s, keyD_b]; omega) | with_unfolding_all rfl | decide)) only [n_some, b_some, b2_some, sq_n, sq_e, sq_r, bk_n, bk_e, bk_o, bk_r, v_some, c_some, s_some, e_some, ex_tup, ex_some, h_some, k_nil, k_cons, d_skip, d_region, d_dregion, d_seq, d_cond, d_block, d_exit, d_ret, d_kill, if_t, if_f, p_nil, p_none, p_gd, gd_tt, gd_ft, gd_tf, gd_ff, gd_tup, pd_cons, pd_next, pd_nil, gd_n, gd_s, put_some, put_none, ev_tmp, ev_con, gd_zero, gd_succ, o_mov, o_take_t, o_take_c, o_pick, o_alloc, o_box_t, o_box_c, o_load, o_store_t, o_store_c, o_nilck, o_bin, o_un, o_cInt, o_cStr, o_cBytesStr, o_cStrBytes, o_faddr, o_iaddr, o_idxs, o_fld, o_lens, o_lenl, o_mkif, o_mkfn, o_extract, bn_none, bn_some, bndI_int, o_slice, o_append_t, o_append_c, o_build, o_bslice, o_bconv_t, o_eqb, o_isnil, o_slnil, o_mnmx, o_mkslice, o_call, o_pcall, pcl_ok, pp_some, o_callv, rv_fn, f_norm, f_ret, f2_some, one_1, one_0, one_2, r_nil, r_tmp, r_cell, rc_some, rb_some, gc_self, gc_set1, gc_drop1, gc_dropS, gc_nil, pick_t, pick_f, cInt_i, cStr_s, strBytes_s, bytes_enc, faddr_r, faddr_b, lens_s, lenl_s, lenl_b, nilck_b, nilck_r, nilck_f, eqb_b, isnil_np, isnil_bx, isnil_rf, isnil_ni, isnil_if, isnil_nm, isnil_mp, isnil_nf, isnil_fn, mnmx_mx, mnmx_mn, bin_shl, bin_shr, bin_add, bin_sub, bin_mul, bin_quo, bin_rem, bin_and, bin_or, bin_xor, bin_andNot, bin_eql, bin_neq, bin_lss, bin_leq, bin_gtr, bin_geq, bins_add, bins_eql, bins_neq, bins_lss, bins_leq, bins_gtr, bins_geq, un_not, un_neg, un_xor, load_box, lb_none, msh_some, lb_some, load_ref, head_cons, load_refs, fld_one, fld_agg, el_some, ia_sl, ia_bs, ia_ref, ia_box, slc_none, slc_some, slc_str, idx_s, by_some, nw_sl, nw_str, mr_enc, szOK_enc, szOK_nil, szOK_cons, bsl_ok, build_o, bld_some, fill_nil, fill_cons, st_box, stB_some, mks_ok, hp_get_new, hp_get_old, hp_set_new, hp_set_old, hp_get_set, hp_len_app, hp_len_set, hp_set_set, AV.sh, AV.cells, AV.one, onesL, shL, List.map_cons, List.map_nil, List.cons_append, List.nil_append, List.append_nil, List.append_assoc, List.length_cons, List.length_nil, List.replicate_succ, List.replicate_zero, List.set_cons_zero, List.set_cons_succ, List.getElem?_cons_zero, List.getElem?_cons_succ, shP, ovl, List.take_zero, List.drop_zero, List.take_succ_cons, List.drop_succ_cons, List.take_nil, List.drop_nil, allSz, mrL, mrLL, mrB, AV.mr, Nat.reduceAdd, Nat.reduceSub, Nat.reduceMul, Nat.reduceLeDiff, Nat.zero_add, Nat.add_zero, Nat.reduceEqDiff, Nat.reduceBEq, Nat.max_self, Nat.zero_max, Nat.max_zero, Nat.zero_le, Bool.and_self, Bool.true_and, Bool.and_true, beq_self_eq_true, true_and, and_true, and_self, true_or, or_true, if_true, if_false, reduceIte, reduceCtorEq, false_implies, true_implies, implies_true, Bool.false_eq_true, Nat.le_refl, Option.some.injEq, Prod.mk.injEq, AV.int.injEq, AV.bool.injEq, Option.getD_some, Option.getD_none, ow_nil, ow_sh, ow_cells, ow_one, ow_mr, ow_len, ow_news, ow_ia, ow_bytes, app_ow, app_ex, lk_n, lk_e, lk_r, bconv_own, Bool.not_true, Bool.not_false, bne_self_eq_false, beq_self_eq_true, Bool.bne_false, Bool.bne_true, o_mkmap, o_look, o_lenm, o_eqs, o_mput, ents_mp, ents_nil, entsB_some, look_ok, look2_some, look3_some, lookR_ns, lookR_n, lookR_ss, lookR_s, lenm_ok, lenm2_some, mput_mp, mputB_some, mputC_some, eqs_ok, eqs2_some]) (Q := fun e σ h' => e = .normal ∧ σ = [.sl .sh es, undefA, .sl .ex [], undefA, undefA, undefA, undefA, undefA] ∧ h' = h) ⟨rfl, rfl, rfl⟩)) ?_)
    rintro e a1 w1 ⟨x1, g1', σ1, h1', rfl, ⟨rfl, rfl, rfl⟩, lg1, k1, s1⟩
    refine wp_seq (wp_seq (wp_mono (region_nil_sound h1 g1 d1 h2 g2 d2 ht s1 (es := es) rfl rfl (Q := fun e σ h' => e = .normal ∧ (∃ b, (b = true → es = []) ∧ σ = [.sl .sh es, undefA, .sl .ex [], .sl .sh es, .bool b, undefA, undefA, undefA]) ∧ h' = h1') fun b hb => ⟨rfl, ⟨b, hb, rfl⟩, rfl⟩) ?_))
    rintro e a2 w2 ⟨x2, g2', σ2, h2', rfl, ⟨rfl, ⟨b, hb', rfl⟩, rfl⟩, lg2, k2, s2⟩
    have vc : a2.eval (.tmp 4) = .bool b := by
      have := compO_VR (x := .tmp 4) (y := .tmp 4) s2.vl rfl
      have e4 : evalO [.sl .sh es, undefA, .sl .ex [], .sl .sh es, .bool b, undefA, undefA, undefA] (.tmp 4) = .bool b := rfl
      rw [e4] at this
      simpa only [VR] using this
    cases b with
    | true =>
      obtain rfl := hb' rfl
      refine wp_cond_true vc (wp_mono (W_sound cX s2 (den_W (T := noT) noT_ok (e := .ret) (σ' := [.sl .sh [], undefA, .sl .ex [], .sl .sh [], .bool true, undefA, undefA, undefA]) (h' := h2') (by simp -implicitDefEqProofs (disch := (refine id_ok ?_; first | assumption | omega | (simp only [AV.mr, mrL, mrLL, mrB, mr_enc, shL, AV.sh, AV.cells, onesL, AV.one, szOK_enc, szOK_nil, szOK_cons, List.map_cons, List.map_nil, List.length_cons, List.length_nil, List.length_map, List.length_append, List.length_take, List.length_drop, Nat.max_self, Nat.zero_max, Nat.max_zero, Nat.zero_le, Nat.le_refl, Bool.and_self, Bool.true_and, Bool.and_true, beq_self_eq_true, and_self, true_and, and_true, Nat.reduceAdd, Nat.reduceEqDiff, Nat.reduceLeDiff, ow_sh, ow_cells, ow_one, ow_mr, mrLL_app, keyD_i, keyD_s, keyD_b] <;> fail) | (simp only [AV.mr, mrL, mrLL, mrB, mr_enc, shL, AV.sh, AV.cells, onesL, AV.one, szOK_enc, szOK_nil, szOK_cons, List.map_cons, List.map_nil, List.length_cons, List.length_nil, List.length_map, List.length_append, List.length_take, List.length_drop, Nat.max_self, Nat.zero_max, Nat.max_zero, Nat.zero_le, Nat.le_refl, Bool.and_self, Bool.true_and, Bool.and_true, beq_self_eq_true, and_self, true_and, and_true, Nat.reduceAdd, Nat.reduceEqDiff, Nat.reduceLeDiff, ow_sh, ow_cells, ow_one, ow_mr, mrLL_app, keyD_i, keyD_s, keyD_b]; omega) | with_unfolding_all rfl | decide)) only [n_some, b_some, b2_some, sq_n, sq_e, sq_r, bk_n, bk_e, bk_o, bk_r, v_some, c_some, s_some, e_some, ex_tup, ex_some, h_some, k_nil, k_cons, d_skip, d_region, d_dregion, d_seq, d_cond, d_block, d_exit, d_ret, d_kill, if_t, if_f, p_nil, p_none, p_gd, gd_tt, gd_ft, gd_tf, gd_ff, gd_tup, pd_cons, pd_next, pd_nil, gd_n, gd_s, put_some, put_none, ev_tmp, ev_con, gd_zero, gd_succ, o_mov, o_take_t, o_take_c, o_pick, o_alloc, o_box_t, o_box_c, o_load, o_store_t, o_store_c, o_nilck, o_bin, o_un, o_cInt, o_cStr, o_cBytesStr, o_cStrBytes, o_faddr, o_iaddr, o_idxs, o_fld, o_lens, o_lenl, o_mkif, o_mkfn, o_extract, bn_none, bn_some, bndI_int, o_slice, o_append_t, o_append_c, o_build, o_bslice, o_bconv_t, o_eqb, o_isnil, o_slnil, o_mnmx, o_mkslice, o_call, o_pcall, pcl_ok, pp_some, o_callv, rv_fn, f_norm, f_ret, f2_some, one_1, one_0, one_2, r_nil, r_tmp, r_cell, rc_some, rb_some, gc_self, gc_set1, gc_drop1, gc_dropS, gc_nil, pick_t, pick_f, cInt_i, cStr_s, strBytes_s, bytes_enc, faddr_r, faddr_b, lens_s, lenl_s, lenl_b, nilck_b, nilck_r, nilck_f, eqb_b, isnil_np, isnil_bx, isnil_rf, isnil_ni, isnil_if, isnil_nm, isnil_mp, isnil_nf, isnil_fn, mnmx_mx, mnmx_mn, bin_shl, bin_shr, bin_add, bin_sub, bin_mul, bin_quo, bin_rem, bin_and, bin_or, bin_xor, bin_andNot, bin_eql, bin_neq, bin_lss, bin_leq, bin_gtr, bin_geq, bins_add, bins_eql, bins_neq, bins_lss, bins_leq, bins_gtr, bins_geq, un_not, un_neg, un_xor, load_box, lb_none, msh_some, lb_some, load_ref, head_cons, load_refs, fld_one, fld_agg, el_some, ia_sl, ia_bs, ia_ref, ia_box, slc_none, slc_some, slc_str, idx_s, by_some, nw_sl, nw_str, mr_enc, szOK_enc, szOK_nil, szOK_cons, bsl_ok, build_o, bld_some, fill_nil, fill_cons, st_box, stB_some, mks_ok, hp_get_new, hp_get_old, hp_set_new, hp_set_old, hp_get_set, hp_len_app, hp_len_set, hp_set_set, AV.sh, AV.cells, AV.one, onesL, shL, List.map_cons, List.map_nil, List.cons_append, List.nil_append, List.append_nil, List.append_assoc, List.length_cons, List.length_nil, List.replicate_succ, List.replicate_zero, List.set_cons_zero, List.set_cons_succ, List.getElem?_cons_zero, List.getElem?_cons_succ, shP, ovl, List.take_zero, List.drop_zero, List.take_succ_cons, List.drop_succ_cons, List.take_nil, List.drop_nil, allSz, mrL, mrLL, mrB, AV.mr, Nat.reduceAdd, Nat.reduceSub, Nat.reduceMul, Nat.reduceLeDiff, Nat.zero_add, Nat.add_zero, Nat.reduceEqDiff, Nat.reduceBEq, Nat.max_self, Nat.zero_max, Nat.max_zero, Nat.zero_le, Bool.and_self, Bool.true_and, Bool.and_true, beq_self_eq_true, true_and, and_true, and_self, true_or, or_true, if_true, if_false, reduceIte, reduceCtorEq, false_implies, true_implies, implies_true, Bool.false_eq_true, Nat.le_refl, Option.some.injEq, Prod.mk.injEq, AV.int.injEq, AV.bool.injEq, Option.getD_some, Option.getD_none, ow_nil, ow_sh, ow_cells, ow_one, ow_mr, ow_len, ow_news, ow_ia, ow_bytes, app_ow, app_ex, lk_n, lk_e, lk_r, bconv_own, Bool.not_true, Bool.not_false, bne_self_eq_false, beq_self_eq_true, Bool.bne_false, Bool.bne_true, o_mkmap, o_look, o_lenm, o_eqs, o_mput, ents_mp, ents_nil, entsB_some, look_ok, look2_some, look3_some, lookR_ns, lookR_n, lookR_ss, lookR_s, lenm_ok, lenm2_some, mput_mp, mputB_some, mputC_some, eqs_ok, eqs2_some]) (Q := fun e σ h' => e = .ret ∧ σ = [.sl .sh [], undefA, .sl .ex [], .sl .sh [], .bool true, undefA, undefA, undefA] ∧ h' = h2') ⟨rfl, rfl, rfl⟩)) ?_)
      rintro e a3 w3 ⟨x3, g3', σ3, h3', rfl, ⟨rfl, rfl, rfl⟩, lg3, k3, s3⟩
      exact ⟨.ret, g3', _, _, rfl, ⟨trivial, [ow []], rfl, hK⟩, (lg1.trans lg2).trans lg3, (k1.trans k2).trans k3, s3⟩
    | false =>
      refine wp_cond_false vc (wp_skip ?_)
      obtain ⟨q1, q2, q3⟩ := hc
      have hap : appV S bytes (ow []) (some es) = some (ow es) := by
        have := app_ow (S := S) (bytes := bytes) (l := []) (fs := es) rfl q1 (by simpa using q2) (by simpa using q3)
        simpa using this
      refine wp_mono (W_sound cB s2 (den_W (T := noT) noT_ok (e := .ret) (σ' := [.sl .sh es, undefA, ow es, .sl .sh es, .bool false, .sl .sh [], .sl .sh es, .sl .sh es]) (h' := h2') (by simp -implicitDefEqProofs (disch := (refine id_ok ?_; first | assumption | omega | (simp only [AV.mr, mrL, mrLL, mrB, mr_enc, shL, AV.sh, AV.cells, onesL, AV.one, szOK_enc, szOK_nil, szOK_cons, List.map_cons, List.map_nil, List.length_cons, List.length_nil, List.length_map, List.length_append, List.length_take, List.length_drop, Nat.max_self, Nat.zero_max, Nat.max_zero, Nat.zero_le, Nat.le_refl, Bool.and_self, Bool.true_and, Bool.and_true, beq_self_eq_true, and_self, true_and, and_true, Nat.reduceAdd, Nat.reduceEqDiff, Nat.reduceLeDiff, ow_sh, ow_cells, ow_one, ow_mr, mrLL_app, keyD_i, keyD_s, keyD_b] <;> fail) | (simp only [AV.mr, mrL, mrLL, mrB, mr_enc, shL, AV.sh, AV.cells, onesL, AV.one, szOK_enc, szOK_nil, szOK_cons, List.map_cons, List.map_nil, List.length_cons, List.length_nil, List.length_map, List.length_append, List.length_take, List.length_drop, Nat.max_self, Nat.zero_max, Nat.max_zero, Nat.zero_le, Nat.le_refl, Bool.and_self, Bool.true_and, Bool.and_true, beq_self_eq_true, and_self, true_and, and_true, Nat.reduceAdd, Nat.reduceEqDiff, Nat.reduceLeDiff, ow_sh, ow_cells, ow_one, ow_mr, mrLL_app, keyD_i, keyD_s, keyD_b]; omega) | with_unfolding_all rfl | decide)) only [n_some, b_some, b2_some, sq_n, sq_e, sq_r, bk_n, bk_e, bk_o, bk_r, v_some, c_some, s_some, e_some, ex_tup, ex_some, h_some, k_nil, k_cons, d_skip, d_region, d_dregion, d_seq, d_cond, d_block, d_exit, d_ret, d_kill, if_t, if_f, p_nil, p_none, p_gd, gd_tt, gd_ft, gd_tf, gd_ff, gd_tup, pd_cons, pd_next, pd_nil, gd_n, gd_s, put_some, put_none, ev_tmp, ev_con, gd_zero, gd_succ, o_mov, o_take_t, o_take_c, o_pick, o_alloc, o_box_t, o_box_c, o_load, o_store_t, o_store_c, o_nilck, o_bin, o_un, o_cInt, o_cStr, o_cBytesStr, o_cStrBytes, o_faddr, o_iaddr, o_idxs, o_fld, o_lens, o_lenl, o_mkif, o_mkfn, o_extract, bn_none, bn_some, bndI_int, o_slice, o_append_t, o_append_c, o_build, o_bslice, o_bconv_t, o_eqb, o_isnil, o_slnil, o_mnmx, o_mkslice, o_call, o_pcall, pcl_ok, pp_some, o_callv, rv_fn, f_norm, f_ret, f2_some, one_1, one_0, one_2, r_nil, r_tmp, r_cell, rc_some, rb_some, gc_self, gc_set1, gc_drop1, gc_dropS, gc_nil, pick_t, pick_f, cInt_i, cStr_s, strBytes_s, bytes_enc, faddr_r, faddr_b, lens_s, lenl_s, lenl_b, nilck_b, nilck_r, nilck_f, eqb_b, isnil_np, isnil_bx, isnil_rf, isnil_ni, isnil_if, isnil_nm, isnil_mp, isnil_nf, isnil_fn, mnmx_mx, mnmx_mn, bin_shl, bin_shr, bin_add, bin_sub, bin_mul, bin_quo, bin_rem, bin_and, bin_or, bin_xor, bin_andNot, bin_eql, bin_neq, bin_lss, bin_leq, bin_gtr, bin_geq, bins_add, bins_eql, bins_neq, bins_lss, bins_leq, bins_gtr, bins_geq, un_not, un_neg, un_xor, load_box, lb_none, msh_some, lb_some, load_ref, head_cons, load_refs, fld_one, fld_agg, el_some, ia_sl, ia_bs, ia_ref, ia_box, slc_none, slc_some, slc_str, idx_s, by_some, nw_sl, nw_str, mr_enc, szOK_enc, szOK_nil, szOK_cons, bsl_ok, build_o, bld_some, fill_nil, fill_cons, st_box, stB_some, mks_ok, hp_get_new, hp_get_old, hp_set_new, hp_set_old, hp_get_set, hp_len_app, hp_len_set, hp_set_set, AV.sh, AV.cells, AV.one, onesL, shL, List.map_cons, List.map_nil, List.cons_append, List.nil_append, List.append_nil, List.append_assoc, List.length_cons, List.length_nil, List.replicate_succ, List.replicate_zero, List.set_cons_zero, List.set_cons_succ, List.getElem?_cons_zero, List.getElem?_cons_succ, shP, ovl, List.take_zero, List.drop_zero, List.take_succ_cons, List.drop_succ_cons, List.take_nil, List.drop_nil, allSz, mrL, mrLL, mrB, AV.mr, Nat.reduceAdd, Nat.reduceSub, Nat.reduceMul, Nat.reduceLeDiff, Nat.zero_add, Nat.add_zero, Nat.reduceEqDiff, Nat.reduceBEq, Nat.max_self, Nat.zero_max, Nat.max_zero, Nat.zero_le, Bool.and_self, Bool.true_and, Bool.and_true, beq_self_eq_true, true_and, and_true, and_self, true_or, or_true, if_true, if_false, reduceIte, reduceCtorEq, false_implies, true_implies, implies_true, Bool.false_eq_true, Nat.le_refl, Option.some.injEq, Prod.mk.injEq, AV.int.injEq, AV.bool.injEq, Option.getD_some, Option.getD_none, ow_nil, ow_sh, ow_cells, ow_one, ow_mr, ow_len, ow_news, ow_ia, ow_bytes, app_ow, app_ex, lk_n, lk_e, lk_r, bconv_own, Bool.not_true, Bool.not_false, bne_self_eq_false, beq_self_eq_true, Bool.bne_false, Bool.bne_true, o_mkmap, o_look, o_lenm, o_eqs, o_mput, ents_mp, ents_nil, entsB_some, look_ok, look2_some, look3_some, lookR_ns, lookR_n, lookR_ss, lookR_s, lenm_ok, lenm2_some, mput_mp, mputB_some, mputC_some, eqs_ok, eqs2_some, hap]) (Q := fun e σ h' => e = .ret ∧ σ.getD 2 undefA = ow es ∧ h' = h2') ⟨rfl, rfl, rfl⟩)) ?_
      rintro e a3 w3 ⟨x3, g3', σ3, h3', rfl, ⟨rfl, hσ, rfl⟩, lg3, k3, s3⟩
      exact ⟨.ret, g3', _, _, rfl, ⟨trivial, [ow es], by simp only [retV, hσ]; rfl, hK⟩, (lg1.trans lg2).trans lg3, (k1.trans k2).trans k3, s3⟩
  intro w0 g n w vs hv hcl hi
  have hv' : VL g [.sl .sh es] vs := by
    have := VL.sh _ _ hv
    simpa only [shL, AV.sh] using this
  exact key w0 g n w vs hv' rfl hi
end
theorem run_prim {T : Tbl} {f : FuncId} {p : List AV → AH → Option (AV × AH)} {args : List AV} {h : AH} (hT : T f = some (.prim p)) : run T f args h = p args h := by
  simp only [run, callF, hT]
end Go.Proofs.Ytlehlpbhkfmkaaa.M
