/- Chunks: the checks that each law makes first. -/
import Derived.Test.YtlehlpbhkfmkaaaL14
set_option linter.all false
set_option maxRecDepth 100000
namespace Go.Proofs.Ytlehlpbhkfmkaaa.L
open Go.Proofs.Ytlehlpbhkfmkaaa.M Go.Proofs.Ytlehlpbhkfmkaaa.F Go.Proofs

theorem first19 : run T 26 [] [] = some (.bool true, []) := by
  generalize hD : (ofB [97, 98, 99, 100, 101] : Int) = D
  have hp : headP [97, 98, 99, 100, 101] 2 := ⟨by decide, by decide⟩
  have hr : rightP 5 2 D := by rw [← hD]; exact head_right hp
  have hc : cnt 5 2 D = 3 := by rw [cnt_right hr]; decide
  have c2 : clen 5 2 D 2 = 1 := by rw [clen, hc]; decide
  have c0 : clen 5 2 D 0 = 2 := by rw [clen, hc]; decide
  have h1 : run T 33 [.sl .sh [[.int .u8 97], [.int .u8 98], [.int .u8 99], [.int .u8 100], [.int .u8 101]], .int .i64 2] [] = some (.tup [.agg [.int .i64 5, .int .i64 2, .int .i64 D], .bool true], []) := by
    have := headof_yes (h := []) hp
    rw [hD] at this; exact this
  have h2 : run T 34 [.sl .sh [[.int .u8 97], [.int .u8 98], [.int .u8 99], [.int .u8 100], [.int .u8 101]], .int .i64 2, .int .i64 2] [] = some (.tup [ow [encB 101], .bool true], []) := by
    have := cut_yes (b := [97, 98, 99, 100, 101]) (n := 2) (i := 2) (h := []) hp ⟨by decide, by rw [hD]; show 2 < cnt 5 2 D; rw [hc]; decide⟩
    rw [hD, show clen (([97, 98, 99, 100, 101] : List UInt8).length : Int) 2 D 2 = 1 from c2] at this
    exact this
  have h3 : run T 36 [.agg [.int .i64 5, .int .i64 2, .int .i64 D]] [.cells [.int .i64 5, .int .i64 2, .int .i64 D]] = some (.tup [.box 3 0, .int .i64 0], [.cells [.int .i64 5, .int .i64 2, .int .i64 D], .cells [.int .i64 5, .int .i64 2, .int .i64 D], .amap [], .cells [.int .i64 5, .int .i64 2, .int .i64 D, .mp 2]]) := new_yes hr
  have k0 : heapAt [.cells [.int .i64 5, .int .i64 2, .int .i64 D], .cells [.int .i64 5, .int .i64 2, .int .i64 D], .amap [], .cells [.int .i64 5, .int .i64 2, .int .i64 D, .mp 2]] 3 2 5 2 D [] := ⟨rfl, rfl⟩
  have p2 : putR 5 2 D 2 [101] [] = 0 := by rw [putR, c2]; decide
  have h4 := put_run (i := 2) (c := [101]) k0 (by decide)
  rw [p2, if_pos rfl] at h4
  have h4' : run T 37 [.box 3 0, .int .i64 2, .sl .sh [encB 101]] [.cells [.int .i64 5, .int .i64 2, .int .i64 D], .cells [.int .i64 5, .int .i64 2, .int .i64 D], .amap [], .cells [.int .i64 5, .int .i64 2, .int .i64 D, .mp 2]] = some (.int .i64 0, [.cells [.int .i64 5, .int .i64 2, .int .i64 D], .cells [.int .i64 5, .int .i64 2, .int .i64 D], .amap [enE (2, [101])], .cells [.int .i64 5, .int .i64 2, .int .i64 D, .mp 2]]) := h4
  have k1 : heapAt [.cells [.int .i64 5, .int .i64 2, .int .i64 D], .cells [.int .i64 5, .int .i64 2, .int .i64 D], .amap [enE (2, [101])], .cells [.int .i64 5, .int .i64 2, .int .i64 D, .mp 2]] 3 2 5 2 D [(2, [101])] := ⟨rfl, rfl⟩
  have p0 : putR 5 2 D 0 [101] [(2, [101])] = 13 := by rw [putR, c0]; decide
  have h5 := put_run (i := 0) (c := [101]) k1 (by decide)
  rw [p0, if_neg (by decide)] at h5
  have h5' : run T 37 [.box 3 0, .int .i64 0, .sl .sh [encB 101]] _ = _ := h5
  have h6 := bytes_missing k1 hr (by decide) (by rw [hc]; decide)
  have h7 := missing_run k1 hr (by decide)
  rw [hc] at h7
  have h7' : run T 38 [.box 3 0] _ = some (.int .i64 2, _) := h7
  have h8 := next_run (i := 1) k1 hr (by decide)
  rw [show nextR 5 2 D 1 [(2, [101])] = 1 by rw [nextR, hc]; decide] at h8
  have h9 := next_run (i := 2) k1 hr (by decide)
  rw [show nextR 5 2 D 2 [(2, [101])] = 0 by rw [nextR, hc]; decide] at h9
  have h10 := count_run (l := 5) (s := 2) (d := D) (h := [])
  rw [hc] at h10
  have h11 := right_run (l := 5) (s := 2) (d := D) (h := [])
  rw [decide_eq_true hr] at h11
  simp only [hd] at h10 h11
  have hm : mrLL [encB 101] = 0 := rfl
  have hb : bytesV (ow [encB 101]) = some (.str ⟨#[101]⟩) := ow_bytes (b := [101])
  have hq : ((ByteArray.toList ⟨#[101]⟩) == (ByteArray.toList ⟨#[101]⟩)) = true := beq_self_eq_true _
  rw [run_code T_26]
  simp (maxSteps := 2000000) -implicitDefEqProofs (disch := (refine id_ok ?_; first | assumption | omega | (simp only [AV.mr, mrL, mrLL, mrB, mr_enc, shL, AV.sh, AV.cells, onesL, AV.one, szOK_enc, szOK_nil, szOK_cons, List.map_cons, List.map_nil, List.length_cons, List.length_nil, List.length_map, List.length_append, List.length_take, List.length_drop, Nat.max_self, Nat.zero_max, Nat.max_zero, Nat.zero_le, Nat.le_refl, Bool.and_self, Bool.true_and, Bool.and_true, beq_self_eq_true, and_self, true_and, and_true, Nat.reduceAdd, Nat.reduceEqDiff, Nat.reduceLeDiff, ow_sh, ow_cells, ow_one, ow_mr, mrLL_app, keyD_i, keyD_s, keyD_b] <;> fail) | (simp only [AV.mr, mrL, mrLL, mrB, mr_enc, shL, AV.sh, AV.cells, onesL, AV.one, szOK_enc, szOK_nil, szOK_cons, List.map_cons, List.map_nil, List.length_cons, List.length_nil, List.length_map, List.length_append, List.length_take, List.length_drop, Nat.max_self, Nat.zero_max, Nat.max_zero, Nat.zero_le, Nat.le_refl, Bool.and_self, Bool.true_and, Bool.and_true, beq_self_eq_true, and_self, true_and, and_true, Nat.reduceAdd, Nat.reduceEqDiff, Nat.reduceLeDiff, ow_sh, ow_cells, ow_one, ow_mr, mrLL_app, keyD_i, keyD_s, keyD_b]; omega) | with_unfolding_all rfl | decide)) only [n_some, b_some, b2_some, sq_n, sq_e, sq_r, bk_n, bk_e, bk_o, bk_r, v_some, c_some, s_some, e_some, ex_tup, ex_some, h_some, k_nil, k_cons, d_skip, d_region, d_dregion, d_seq, d_cond, d_block, d_exit, d_ret, d_kill, if_t, if_f, p_nil, p_none, p_gd, gd_tt, gd_ft, gd_tf, gd_ff, gd_tup, pd_cons, pd_next, pd_nil, gd_n, gd_s, put_some, put_none, ev_tmp, ev_con, gd_zero, gd_succ, o_mov, o_take_t, o_take_c, o_pick, o_alloc, o_box_t, o_box_c, o_load, o_store_t, o_store_c, o_nilck, o_bin, o_un, o_cInt, o_cStr, o_cBytesStr, o_cStrBytes, o_faddr, o_iaddr, o_idxs, o_fld, o_lens, o_lenl, o_mkif, o_mkfn, o_extract, bn_none, bn_some, bndI_int, o_slice, o_append_t, o_append_c, o_build, o_bslice, o_bconv_t, o_eqb, o_isnil, o_slnil, o_mnmx, o_mkslice, o_call, o_pcall, pcl_ok, pp_some, o_callv, rv_fn, f_norm, f_ret, f2_some, one_1, one_0, one_2, r_nil, r_tmp, r_cell, rc_some, rb_some, gc_self, gc_set1, gc_drop1, gc_dropS, gc_nil, pick_t, pick_f, cInt_i, cStr_s, strBytes_s, bytes_enc, faddr_r, faddr_b, lens_s, lenl_s, lenl_b, nilck_b, nilck_r, nilck_f, eqb_b, isnil_np, isnil_bx, isnil_rf, isnil_ni, isnil_if, isnil_nm, isnil_mp, isnil_nf, isnil_fn, mnmx_mx, mnmx_mn, bin_shl, bin_shr, bin_add, bin_sub, bin_mul, bin_quo, bin_rem, bin_and, bin_or, bin_xor, bin_andNot, bin_eql, bin_neq, bin_lss, bin_leq, bin_gtr, bin_geq, bins_add, bins_eql, bins_neq, bins_lss, bins_leq, bins_gtr, bins_geq, un_not, un_neg, un_xor, load_box, lb_none, msh_some, lb_some, load_ref, head_cons, load_refs, fld_one, fld_agg, el_some, ia_sl, ia_bs, ia_ref, ia_box, slc_none, slc_some, slc_str, idx_s, by_some, nw_sl, nw_str, mr_enc, szOK_enc, szOK_nil, szOK_cons, bsl_ok, build_o, bld_some, fill_nil, fill_cons, st_box, stB_some, mks_ok, hp_get_new, hp_get_old, hp_set_new, hp_set_old, hp_get_set, hp_len_app, hp_len_set, hp_set_set, AV.sh, AV.cells, AV.one, onesL, shL, List.map_cons, List.map_nil, List.cons_append, List.nil_append, List.append_nil, List.append_assoc, List.length_cons, List.length_nil, List.replicate_succ, List.replicate_zero, List.set_cons_zero, List.set_cons_succ, List.getElem?_cons_zero, List.getElem?_cons_succ, shP, ovl, List.take_zero, List.drop_zero, List.take_succ_cons, List.drop_succ_cons, List.take_nil, List.drop_nil, allSz, mrL, mrLL, mrB, AV.mr, Nat.reduceAdd, Nat.reduceSub, Nat.reduceMul, Nat.reduceLeDiff, Nat.zero_add, Nat.add_zero, Nat.reduceEqDiff, Nat.reduceBEq, Nat.max_self, Nat.zero_max, Nat.max_zero, Nat.zero_le, Bool.and_self, Bool.true_and, Bool.and_true, beq_self_eq_true, true_and, and_true, and_self, true_or, or_true, if_true, if_false, reduceIte, reduceCtorEq, false_implies, true_implies, implies_true, Bool.false_eq_true, Nat.le_refl, Option.some.injEq, Prod.mk.injEq, AV.int.injEq, AV.bool.injEq, Option.getD_some, Option.getD_none, ow_nil, ow_sh, ow_cells, ow_one, ow_mr, ow_len, ow_news, ow_ia, ow_bytes, app_ow, app_ex, lk_n, lk_e, lk_r, bconv_own, Bool.not_true, Bool.not_false, bne_self_eq_false, beq_self_eq_true, Bool.bne_false, Bool.bne_true, o_mkmap, o_look, o_lenm, o_eqs, o_mput, ents_mp, ents_nil, entsB_some, look_ok, look2_some, look3_some, lookR_ns, lookR_n, lookR_ss, lookR_s, lenm_ok, lenm2_some, mput_mp, mputB_some, mputC_some, eqs_ok, eqs2_some, c_regencylaw19_first, h1, h2, h3, h4', h5', h6, h7', h8, h9, h10, h11, hm, hb, hq]
  try rfl
end Go.Proofs.Ytlehlpbhkfmkaaa.L
