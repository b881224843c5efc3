/- The checksum's reference: the same. -/
import Derived.Test.YtlehlpbhkfmkaaaL5
set_option linter.all false
set_option maxRecDepth 100000
namespace Go.Proofs.Ytlehlpbhkfmkaaa.L
open Go.Proofs.Ytlehlpbhkfmkaaa.M Go.Proofs.Ytlehlpbhkfmkaaa.F Go.Proofs

theorem xor2 (a b : Nat) : (a ^^^ b) % 2 = (a + b) % 2 := by
  have h := Nat.xor_mod_two_pow (a := a) (b := b) (n := 1)
  rw [Nat.pow_one] at h
  rw [h]
  rcases Nat.mod_two_eq_zero_or_one a with ha | ha <;> rcases Nat.mod_two_eq_zero_or_one b with hb | hb <;> rw [ha, hb] <;> simp <;> omega

def bitsN : Nat → Nat → List UInt8
  | 0, _ => []
  | n + 1, c => UInt8.ofNat (c % 2) :: bitsN n (c / 2)
theorem bitsN_len : ∀ (n c : Nat), (bitsN n c).length = n
  | 0, c => rfl
  | n + 1, c => by simp [bitsN, bitsN_len n]
theorem bitsN_get : ∀ (n c k : Nat), k < n → (bitsN n c)[k]? = some (UInt8.ofNat (c / 2 ^ k % 2))
  | 0, c, k, h => by omega
  | n + 1, c, 0, h => by simp [bitsN]
  | n + 1, c, k + 1, h => by
    rw [bitsN, List.getElem?_cons_succ, bitsN_get n (c / 2) k (by omega), Nat.div_div_eq_div_mul, Nat.pow_succ, Nat.mul_comm 2]
def bitsB (c : UInt8) : List UInt8 := bitsN 8 c.toNat
def bitsL (l : List UInt8) : List UInt8 := (l.map bitsB).flatten
theorem bitsL_len : ∀ (l : List UInt8), (bitsL l).length = 8 * l.length
  | [] => rfl
  | c :: l => by
    have := bitsL_len l
    simp only [bitsL] at this
    simp only [bitsL, List.map_cons, List.flatten_cons, List.length_append, this, bitsB, bitsN_len, List.length_cons]; omega
theorem bitsL_take_succ (l : List UInt8) (k : Nat) (b : UInt8) (h : l[k]? = some b) : bitsL (l.take (k + 1)) = bitsL (l.take k) ++ bitsB b := by
  rw [List.take_add_one, h]; simp [bitsL]

/-- One bit, as the reference takes it. -/
def rb (r : BitVec 32) (x : UInt8) : BitVec 32 := if (r.toNat + x.toNat) % 2 = 1 then (r >>> 1) ^^^ 3988292384#32 else r >>> 1
theorem u8bit (c : Nat) : (UInt8.ofNat (c % 2)).toNat = c % 2 := by rw [UInt8.toNat_ofNat']; omega
theorem tb_xor (r : BitVec 32) (c : Nat) (hc : c < 4294967296) : tb (r ^^^ BitVec.ofNat 32 c) = rb r (UInt8.ofNat (c % 2)) ^^^ BitVec.ofNat 32 (c / 2) := by
  have h1 : (BitVec.ofNat 32 c) >>> 1 = BitVec.ofNat 32 (c / 2) := by
    apply BitVec.eq_of_toNat_eq
    rw [BitVec.toNat_ushiftRight, BitVec.toNat_ofNat, BitVec.toNat_ofNat, Nat.shiftRight_eq_div_pow]; omega
  have h2 : ((r ^^^ BitVec.ofNat 32 c) &&& 1#32).toNat = (r.toNat + c) % 2 := by
    rw [BitVec.toNat_and, BitVec.toNat_xor, BitVec.toNat_ofNat, BitVec.toNat_ofNat, Nat.mod_eq_of_lt hc, show 1 % 2 ^ 32 = 1 from rfl, Nat.and_one_is_mod, xor2]
  unfold tb rb
  rw [BitVec.ushiftRight_xor_distrib, h1, u8bit]
  have h3 : (r.toNat + c % 2) % 2 = (r.toNat + c) % 2 := by omega
  rw [h3]
  rcases Nat.mod_two_eq_zero_or_one (r.toNat + c) with hb | hb
  · have h4 : (r ^^^ BitVec.ofNat 32 c) &&& 1#32 = 0#32 := by apply BitVec.eq_of_toNat_eq; rw [h2, hb]; rfl
    rw [h4, hb, if_neg (by decide)]
    simp
  · have h4 : (r ^^^ BitVec.ofNat 32 c) &&& 1#32 = 1#32 := by apply BitVec.eq_of_toNat_eq; rw [h2, hb]; rfl
    rw [h4, hb, if_pos rfl, BitVec.mul_one, BitVec.xor_assoc, BitVec.xor_assoc, BitVec.xor_comm (BitVec.ofNat 32 (c / 2))]
theorem tbs_bits : ∀ (n c : Nat) (r : BitVec 32), c < 4294967296 → tbs n (r ^^^ BitVec.ofNat 32 c) = (bitsN n c).foldl rb r ^^^ BitVec.ofNat 32 (c / 2 ^ n)
  | 0, c, r, h => by simp [tbs, bitsN]
  | n + 1, c, r, h => by
    rw [tbs, tb_xor r c h, tbs_bits n (c / 2) _ (by omega), bitsN, List.foldl_cons, Nat.div_div_eq_div_mul, Nat.pow_succ, Nat.mul_comm 2]
theorem ub_bits (r : BitVec 32) (c : UInt8) : ub r c = (bitsB c).foldl rb r := by
  have hc := c.toNat_lt
  rw [ub, tbs_bits 8 c.toNat r (by omega), bitsB, show c.toNat / 2 ^ 8 = 0 by omega]
  simp
theorem fold_bits : ∀ (l : List UInt8) (r : BitVec 32), l.foldl ub r = (bitsL l).foldl rb r
  | [], r => rfl
  | c :: l, r => by
    rw [List.foldl_cons, fold_bits l, ub_bits, ← List.foldl_append]
    rfl

theorem bit_v (c : UInt8) (k : Nat) (hk : k < 8) : IntKind.u8.wrap ((BitVec.ofInt IntKind.u8.bits ((c.toNat : Int).fdiv (2 ^ min (k : Int).toNat IntKind.u8.bits)) &&& BitVec.ofInt IntKind.u8.bits 1).toNat : Int) = ((UInt8.ofNat (c.toNat / 2 ^ k % 2)).toNat : Int) := by
  have hc := c.toNat_lt
  have e1 : min (k : Int).toNat IntKind.u8.bits = k := by
    have : IntKind.u8.bits = 8 := rfl
    omega
  have e2 : (c.toNat : Int).fdiv (2 ^ k) = ((c.toNat / 2 ^ k : Nat) : Int) := by
    rw [Int.fdiv_eq_ediv_of_nonneg _ (Int.pow_nonneg (by decide))]
    simp
  have hlt : c.toNat / 2 ^ k < 256 := Nat.lt_of_le_of_lt (Nat.div_le_self _ _) hc
  rw [e1, e2]
  generalize c.toNat / 2 ^ k = m at *
  show IntKind.u8.wrap (((BitVec.ofInt 8 (m : Int) &&& BitVec.ofInt 8 1).toNat : Nat) : Int) = _
  have e3 : (BitVec.ofInt 8 (m : Int)).toNat = m := by rw [BitVec.toNat_ofInt]; omega
  rw [BitVec.toNat_and, e3, show (BitVec.ofInt 8 1).toNat = 1 from rfl, Nat.and_one_is_mod, u8bit, w8]
  omega

theorem bits_in {pre : List UInt8} {c : UInt8} {v7 v8 v9 : AV} {h : AH} (hp : pre.length ≤ 1000000) : ∀ (d k : Nat), d + k = 8 →
    den T (.loop l_regencyref02_Bits_1) (s_regencyref02_Bits_1 (ow ((pre ++ (bitsB c).take k).map encB)) (.int .u8 c.toNat) (.int .i64 k) v7 v8 v9) h = some (.exit 2, x_regencyref02_Bits_2 (ow ((pre ++ bitsB c).map encB)) v7 v8 v9, h) := by
  intro d
  induction d with
  | zero =>
    intro k hk
    have : k = 8 := by omega
    subst this
    rw [lp_round, List.take_of_length_le (by rw [bitsB, bitsN_len]; exact Nat.le_refl _)]
    simp -implicitDefEqProofs (disch := (refine id_ok ?_; first | assumption | omega | (simp only [AV.mr, mrL, mrLL, mrB, mr_enc, shL, AV.sh, AV.cells, onesL, AV.one, szOK_enc, szOK_nil, szOK_cons, List.map_cons, List.map_nil, List.length_cons, List.length_nil, List.length_map, List.length_append, List.length_take, List.length_drop, Nat.max_self, Nat.zero_max, Nat.max_zero, Nat.zero_le, Nat.le_refl, Bool.and_self, Bool.true_and, Bool.and_true, beq_self_eq_true, and_self, true_and, and_true, Nat.reduceAdd, Nat.reduceEqDiff, Nat.reduceLeDiff, ow_sh, ow_cells, ow_one, ow_mr, mrLL_app, szOK_app ] <;> fail) | (simp only [AV.mr, mrL, mrLL, mrB, mr_enc, shL, AV.sh, AV.cells, onesL, AV.one, szOK_enc, szOK_nil, szOK_cons, List.map_cons, List.map_nil, List.length_cons, List.length_nil, List.length_map, List.length_append, List.length_take, List.length_drop, Nat.max_self, Nat.zero_max, Nat.max_zero, Nat.zero_le, Nat.le_refl, Bool.and_self, Bool.true_and, Bool.and_true, beq_self_eq_true, and_self, true_and, and_true, Nat.reduceAdd, Nat.reduceEqDiff, Nat.reduceLeDiff, ow_sh, ow_cells, ow_one, ow_mr, mrLL_app, szOK_app ]; omega) | with_unfolding_all rfl | decide)) only [n_some, b_some, b2_some, sq_n, sq_e, sq_r, bk_n, bk_e, bk_o, bk_r, v_some, c_some, s_some, e_some, ex_tup, ex_some, h_some, k_nil, k_cons, d_skip, d_region, d_dregion, d_seq, d_cond, d_block, d_exit, d_ret, d_kill, if_t, if_f, p_nil, p_none, p_gd, gd_tt, gd_ft, gd_tf, gd_ff, gd_tup, pd_cons, pd_next, pd_nil, gd_n, gd_s, put_some, put_none, ev_tmp, ev_con, gd_zero, gd_succ, o_mov, o_take_t, o_take_c, o_pick, o_alloc, o_box_t, o_box_c, o_load, o_store_t, o_store_c, o_nilck, o_bin, o_un, o_cInt, o_cStr, o_cBytesStr, o_cStrBytes, o_faddr, o_iaddr, o_idxs, o_fld, o_lens, o_lenl, o_mkif, o_mkfn, o_extract, bn_none, bn_some, bndI_int, o_slice, o_append_t, o_append_c, o_build, o_bslice, o_bconv_t, o_eqb, o_isnil, o_slnil, o_mnmx, o_mkslice, o_call, o_pcall, pcl_ok, pp_some, o_callv, rv_fn, f_norm, f_ret, f2_some, one_1, one_0, one_2, r_nil, r_tmp, r_cell, rc_some, rb_some, gc_self, gc_set1, gc_drop1, gc_dropS, gc_nil, pick_t, pick_f, cInt_i, cStr_s, strBytes_s, bytes_enc, faddr_r, faddr_b, lens_s, lenl_s, lenl_b, nilck_b, nilck_r, nilck_f, eqb_b, isnil_np, isnil_bx, isnil_rf, isnil_ni, isnil_if, isnil_nm, isnil_mp, isnil_nf, isnil_fn, mnmx_mx, mnmx_mn, bin_shl, bin_shr, bin_add, bin_sub, bin_mul, bin_quo, bin_rem, bin_and, bin_or, bin_xor, bin_andNot, bin_eql, bin_neq, bin_lss, bin_leq, bin_gtr, bin_geq, bins_add, bins_eql, bins_neq, bins_lss, bins_leq, bins_gtr, bins_geq, un_not, un_neg, un_xor, load_box, lb_none, msh_some, lb_some, load_ref, head_cons, load_refs, fld_one, fld_agg, el_some, ia_sl, ia_bs, ia_ref, ia_box, slc_none, slc_some, slc_str, idx_s, by_some, nw_sl, nw_str, mr_enc, szOK_enc, szOK_nil, szOK_cons, bsl_ok, build_o, bld_some, fill_nil, fill_cons, st_box, stB_some, mks_ok, hp_get_new, hp_get_old, hp_set_new, hp_set_old, hp_get_set, hp_len_app, hp_len_set, hp_set_set, AV.sh, AV.cells, AV.one, onesL, shL, List.map_cons, List.map_nil, List.cons_append, List.nil_append, List.append_nil, List.append_assoc, List.length_cons, List.length_nil, List.replicate_succ, List.replicate_zero, List.set_cons_zero, List.set_cons_succ, List.getElem?_cons_zero, List.getElem?_cons_succ, shP, ovl, List.take_zero, List.drop_zero, List.take_succ_cons, List.drop_succ_cons, List.take_nil, List.drop_nil, allSz, mrL, mrLL, mrB, AV.mr, Nat.reduceAdd, Nat.reduceSub, Nat.reduceMul, Nat.reduceLeDiff, Nat.zero_add, Nat.add_zero, Nat.reduceEqDiff, Nat.reduceBEq, Nat.max_self, Nat.zero_max, Nat.max_zero, Nat.zero_le, Bool.and_self, Bool.true_and, Bool.and_true, beq_self_eq_true, true_and, and_true, and_self, true_or, or_true, if_true, if_false, reduceIte, reduceCtorEq, false_implies, true_implies, implies_true, Bool.false_eq_true, Nat.le_refl, Option.some.injEq, Prod.mk.injEq, AV.int.injEq, AV.bool.injEq, Option.getD_some, Option.getD_none, ow_nil, ow_sh, ow_cells, ow_one, ow_mr, ow_len, ow_news, ow_ia, ow_bytes, app_ow, app_ex, lk_n, lk_e, lk_r, bconv_own, Bool.not_true, Bool.not_false, bne_self_eq_false, beq_self_eq_true, Bool.bne_false, Bool.bne_true, show decide (((8 : Nat) : Int) < 8) = false from rfl]
  | succ d ih =>
    intro k hk
    have hlt : k < 8 := by omega
    have hd : decide ((k : Int) < 8) = true := by simp; omega
    have hn' : IntKind.i64.wrap ((k : Int) + 1) = ((k + 1 : Nat) : Int) := by rw [w64 (by omega) (by omega)]; rfl
    have hu : IntKind.u64.wrap (k : Int) = k := by rw [wu64]; omega
    have hg := bitsN_get 8 c.toNat k hlt
    have hlen : (((pre ++ (bitsB c).take k)).map encB).length ≤ 1000008 := by rw [List.length_map, List.length_append, List.length_take]; omega
    have ha : (pre ++ (bitsB c).take k).map encB ++ [[AV.int .u8 ((UInt8.ofNat (c.toNat / 2 ^ k % 2)).toNat : Int)]] = (pre ++ (bitsB c).take (k + 1)).map encB := by
      have : (bitsB c).take (k + 1) = (bitsB c).take k ++ [UInt8.ofNat (c.toNat / 2 ^ k % 2)] := by
        rw [List.take_add_one, show (bitsB c)[k]? = _ from hg]; rfl
      rw [this]; simp [encB]
    have hv := bit_v c k hlt
    have := ih (k + 1) (by omega)
    rw [← ha] at this
    generalize hq : (pre ++ (bitsB c).take k).map encB = q at *
    have hz : szOK 1 q = true := by rw [← hq]; exact szOK_enc
    have hmr : mrLL q = 0 := by rw [← hq]; exact mr_enc _
    rw [lp_round]
    simp -implicitDefEqProofs (disch := (refine id_ok ?_; first | assumption | omega | (simp only [AV.mr, mrL, mrLL, mrB, mr_enc, shL, AV.sh, AV.cells, onesL, AV.one, szOK_enc, szOK_nil, szOK_cons, List.map_cons, List.map_nil, List.length_cons, List.length_nil, List.length_map, List.length_append, List.length_take, List.length_drop, Nat.max_self, Nat.zero_max, Nat.max_zero, Nat.zero_le, Nat.le_refl, Bool.and_self, Bool.true_and, Bool.and_true, beq_self_eq_true, and_self, true_and, and_true, Nat.reduceAdd, Nat.reduceEqDiff, Nat.reduceLeDiff, ow_sh, ow_cells, ow_one, ow_mr, mrLL_app, szOK_app ] <;> fail) | (simp only [AV.mr, mrL, mrLL, mrB, mr_enc, shL, AV.sh, AV.cells, onesL, AV.one, szOK_enc, szOK_nil, szOK_cons, List.map_cons, List.map_nil, List.length_cons, List.length_nil, List.length_map, List.length_append, List.length_take, List.length_drop, Nat.max_self, Nat.zero_max, Nat.max_zero, Nat.zero_le, Nat.le_refl, Bool.and_self, Bool.true_and, Bool.and_true, beq_self_eq_true, and_self, true_and, and_true, Nat.reduceAdd, Nat.reduceEqDiff, Nat.reduceLeDiff, ow_sh, ow_cells, ow_one, ow_mr, mrLL_app, szOK_app ]; omega) | with_unfolding_all rfl | decide)) only [n_some, b_some, b2_some, sq_n, sq_e, sq_r, bk_n, bk_e, bk_o, bk_r, v_some, c_some, s_some, e_some, ex_tup, ex_some, h_some, k_nil, k_cons, d_skip, d_region, d_dregion, d_seq, d_cond, d_block, d_exit, d_ret, d_kill, if_t, if_f, p_nil, p_none, p_gd, gd_tt, gd_ft, gd_tf, gd_ff, gd_tup, pd_cons, pd_next, pd_nil, gd_n, gd_s, put_some, put_none, ev_tmp, ev_con, gd_zero, gd_succ, o_mov, o_take_t, o_take_c, o_pick, o_alloc, o_box_t, o_box_c, o_load, o_store_t, o_store_c, o_nilck, o_bin, o_un, o_cInt, o_cStr, o_cBytesStr, o_cStrBytes, o_faddr, o_iaddr, o_idxs, o_fld, o_lens, o_lenl, o_mkif, o_mkfn, o_extract, bn_none, bn_some, bndI_int, o_slice, o_append_t, o_append_c, o_build, o_bslice, o_bconv_t, o_eqb, o_isnil, o_slnil, o_mnmx, o_mkslice, o_call, o_pcall, pcl_ok, pp_some, o_callv, rv_fn, f_norm, f_ret, f2_some, one_1, one_0, one_2, r_nil, r_tmp, r_cell, rc_some, rb_some, gc_self, gc_set1, gc_drop1, gc_dropS, gc_nil, pick_t, pick_f, cInt_i, cStr_s, strBytes_s, bytes_enc, faddr_r, faddr_b, lens_s, lenl_s, lenl_b, nilck_b, nilck_r, nilck_f, eqb_b, isnil_np, isnil_bx, isnil_rf, isnil_ni, isnil_if, isnil_nm, isnil_mp, isnil_nf, isnil_fn, mnmx_mx, mnmx_mn, bin_shl, bin_shr, bin_add, bin_sub, bin_mul, bin_quo, bin_rem, bin_and, bin_or, bin_xor, bin_andNot, bin_eql, bin_neq, bin_lss, bin_leq, bin_gtr, bin_geq, bins_add, bins_eql, bins_neq, bins_lss, bins_leq, bins_gtr, bins_geq, un_not, un_neg, un_xor, load_box, lb_none, msh_some, lb_some, load_ref, head_cons, load_refs, fld_one, fld_agg, el_some, ia_sl, ia_bs, ia_ref, ia_box, slc_none, slc_some, slc_str, idx_s, by_some, nw_sl, nw_str, mr_enc, szOK_enc, szOK_nil, szOK_cons, bsl_ok, build_o, bld_some, fill_nil, fill_cons, st_box, stB_some, mks_ok, hp_get_new, hp_get_old, hp_set_new, hp_set_old, hp_get_set, hp_len_app, hp_len_set, hp_set_set, AV.sh, AV.cells, AV.one, onesL, shL, List.map_cons, List.map_nil, List.cons_append, List.nil_append, List.append_nil, List.append_assoc, List.length_cons, List.length_nil, List.replicate_succ, List.replicate_zero, List.set_cons_zero, List.set_cons_succ, List.getElem?_cons_zero, List.getElem?_cons_succ, shP, ovl, List.take_zero, List.drop_zero, List.take_succ_cons, List.drop_succ_cons, List.take_nil, List.drop_nil, allSz, mrL, mrLL, mrB, AV.mr, Nat.reduceAdd, Nat.reduceSub, Nat.reduceMul, Nat.reduceLeDiff, Nat.zero_add, Nat.add_zero, Nat.reduceEqDiff, Nat.reduceBEq, Nat.max_self, Nat.zero_max, Nat.max_zero, Nat.zero_le, Bool.and_self, Bool.true_and, Bool.and_true, beq_self_eq_true, true_and, and_true, and_self, true_or, or_true, if_true, if_false, reduceIte, reduceCtorEq, false_implies, true_implies, implies_true, Bool.false_eq_true, Nat.le_refl, Option.some.injEq, Prod.mk.injEq, AV.int.injEq, AV.bool.injEq, Option.getD_some, Option.getD_none, ow_nil, ow_sh, ow_cells, ow_one, ow_mr, ow_len, ow_news, ow_ia, ow_bytes, app_ow, app_ex, lk_n, lk_e, lk_r, bconv_own, Bool.not_true, Bool.not_false, bne_self_eq_false, beq_self_eq_true, Bool.bne_false, Bool.bne_true, hd, hn', hu, hv, hz, hmr]
    exact this

theorem bits_out {l : List UInt8} {h : AH} (hn : l.length ≤ 100000) : ∀ (d k : Nat), d + k = l.length →
    den T (.loop l_regencyref02_Bits_0) (s_regencyref02_Bits_0 (ow ((bitsL (l.take k)).map encB)) (.sl .sh (l.map encB)) (.int .i64 l.length) (.int .i64 k)) h = some (.exit 0, x_regencyref02_Bits_0 (ow ((bitsL l).map encB)), h) := by
  intro d
  induction d with
  | zero =>
    intro k hk
    have : k = l.length := by omega
    subst this
    rw [lp_round, List.take_length]
    simp -implicitDefEqProofs (disch := (refine id_ok ?_; first | assumption | omega | (simp only [AV.mr, mrL, mrLL, mrB, mr_enc, shL, AV.sh, AV.cells, onesL, AV.one, szOK_enc, szOK_nil, szOK_cons, List.map_cons, List.map_nil, List.length_cons, List.length_nil, List.length_map, List.length_append, List.length_take, List.length_drop, Nat.max_self, Nat.zero_max, Nat.max_zero, Nat.zero_le, Nat.le_refl, Bool.and_self, Bool.true_and, Bool.and_true, beq_self_eq_true, and_self, true_and, and_true, Nat.reduceAdd, Nat.reduceEqDiff, Nat.reduceLeDiff, ow_sh, ow_cells, ow_one, ow_mr, mrLL_app, szOK_app ] <;> fail) | (simp only [AV.mr, mrL, mrLL, mrB, mr_enc, shL, AV.sh, AV.cells, onesL, AV.one, szOK_enc, szOK_nil, szOK_cons, List.map_cons, List.map_nil, List.length_cons, List.length_nil, List.length_map, List.length_append, List.length_take, List.length_drop, Nat.max_self, Nat.zero_max, Nat.max_zero, Nat.zero_le, Nat.le_refl, Bool.and_self, Bool.true_and, Bool.and_true, beq_self_eq_true, and_self, true_and, and_true, Nat.reduceAdd, Nat.reduceEqDiff, Nat.reduceLeDiff, ow_sh, ow_cells, ow_one, ow_mr, mrLL_app, szOK_app ]; omega) | with_unfolding_all rfl | decide)) only [n_some, b_some, b2_some, sq_n, sq_e, sq_r, bk_n, bk_e, bk_o, bk_r, v_some, c_some, s_some, e_some, ex_tup, ex_some, h_some, k_nil, k_cons, d_skip, d_region, d_dregion, d_seq, d_cond, d_block, d_exit, d_ret, d_kill, if_t, if_f, p_nil, p_none, p_gd, gd_tt, gd_ft, gd_tf, gd_ff, gd_tup, pd_cons, pd_next, pd_nil, gd_n, gd_s, put_some, put_none, ev_tmp, ev_con, gd_zero, gd_succ, o_mov, o_take_t, o_take_c, o_pick, o_alloc, o_box_t, o_box_c, o_load, o_store_t, o_store_c, o_nilck, o_bin, o_un, o_cInt, o_cStr, o_cBytesStr, o_cStrBytes, o_faddr, o_iaddr, o_idxs, o_fld, o_lens, o_lenl, o_mkif, o_mkfn, o_extract, bn_none, bn_some, bndI_int, o_slice, o_append_t, o_append_c, o_build, o_bslice, o_bconv_t, o_eqb, o_isnil, o_slnil, o_mnmx, o_mkslice, o_call, o_pcall, pcl_ok, pp_some, o_callv, rv_fn, f_norm, f_ret, f2_some, one_1, one_0, one_2, r_nil, r_tmp, r_cell, rc_some, rb_some, gc_self, gc_set1, gc_drop1, gc_dropS, gc_nil, pick_t, pick_f, cInt_i, cStr_s, strBytes_s, bytes_enc, faddr_r, faddr_b, lens_s, lenl_s, lenl_b, nilck_b, nilck_r, nilck_f, eqb_b, isnil_np, isnil_bx, isnil_rf, isnil_ni, isnil_if, isnil_nm, isnil_mp, isnil_nf, isnil_fn, mnmx_mx, mnmx_mn, bin_shl, bin_shr, bin_add, bin_sub, bin_mul, bin_quo, bin_rem, bin_and, bin_or, bin_xor, bin_andNot, bin_eql, bin_neq, bin_lss, bin_leq, bin_gtr, bin_geq, bins_add, bins_eql, bins_neq, bins_lss, bins_leq, bins_gtr, bins_geq, un_not, un_neg, un_xor, load_box, lb_none, msh_some, lb_some, load_ref, head_cons, load_refs, fld_one, fld_agg, el_some, ia_sl, ia_bs, ia_ref, ia_box, slc_none, slc_some, slc_str, idx_s, by_some, nw_sl, nw_str, mr_enc, szOK_enc, szOK_nil, szOK_cons, bsl_ok, build_o, bld_some, fill_nil, fill_cons, st_box, stB_some, mks_ok, hp_get_new, hp_get_old, hp_set_new, hp_set_old, hp_get_set, hp_len_app, hp_len_set, hp_set_set, AV.sh, AV.cells, AV.one, onesL, shL, List.map_cons, List.map_nil, List.cons_append, List.nil_append, List.append_nil, List.append_assoc, List.length_cons, List.length_nil, List.replicate_succ, List.replicate_zero, List.set_cons_zero, List.set_cons_succ, List.getElem?_cons_zero, List.getElem?_cons_succ, shP, ovl, List.take_zero, List.drop_zero, List.take_succ_cons, List.drop_succ_cons, List.take_nil, List.drop_nil, allSz, mrL, mrLL, mrB, AV.mr, Nat.reduceAdd, Nat.reduceSub, Nat.reduceMul, Nat.reduceLeDiff, Nat.zero_add, Nat.add_zero, Nat.reduceEqDiff, Nat.reduceBEq, Nat.max_self, Nat.zero_max, Nat.max_zero, Nat.zero_le, Bool.and_self, Bool.true_and, Bool.and_true, beq_self_eq_true, true_and, and_true, and_self, true_or, or_true, if_true, if_false, reduceIte, reduceCtorEq, false_implies, true_implies, implies_true, Bool.false_eq_true, Nat.le_refl, Option.some.injEq, Prod.mk.injEq, AV.int.injEq, AV.bool.injEq, Option.getD_some, Option.getD_none, ow_nil, ow_sh, ow_cells, ow_one, ow_mr, ow_len, ow_news, ow_ia, ow_bytes, app_ow, app_ex, lk_n, lk_e, lk_r, bconv_own, Bool.not_true, Bool.not_false, bne_self_eq_false, beq_self_eq_true, Bool.bne_false, Bool.bne_true, show decide ((l.length : Int) < l.length) = false from by simp]
  | succ d ih =>
    intro k hk
    have hlt : k < l.length := by omega
    have hd : decide ((k : Int) < l.length) = true := by simp; omega
    have hc : l[k]? = some l[k] := by simp [hlt]
    have hg := get_enc hc
    have hn' : IntKind.i64.wrap ((k : Int) + 1) = ((k + 1 : Nat) : Int) := by rw [w64 (by omega) (by omega)]; rfl
    have he : (encB l[k]).length = 1 := rfl
    have hlen : (bitsL (l.take k)).length ≤ 1000000 := by rw [bitsL_len, List.length_take]; omega
    have hq := bits_in (c := l[k]) (v7 := .sl .sh (l.map encB)) (v8 := .int .i64 l.length) (v9 := .int .i64 k) (h := h) hlen 8 0 rfl
    rw [show ((0 : Nat) : Int) = 0 from rfl, List.take_zero, List.append_nil] at hq
    have := ih (k + 1) (by omega)
    rw [bitsL_take_succ _ _ _ hc] at this
    rw [lp_round]
    simp -implicitDefEqProofs (disch := (refine id_ok ?_; first | assumption | omega | (simp only [AV.mr, mrL, mrLL, mrB, mr_enc, shL, AV.sh, AV.cells, onesL, AV.one, szOK_enc, szOK_nil, szOK_cons, List.map_cons, List.map_nil, List.length_cons, List.length_nil, List.length_map, List.length_append, List.length_take, List.length_drop, Nat.max_self, Nat.zero_max, Nat.max_zero, Nat.zero_le, Nat.le_refl, Bool.and_self, Bool.true_and, Bool.and_true, beq_self_eq_true, and_self, true_and, and_true, Nat.reduceAdd, Nat.reduceEqDiff, Nat.reduceLeDiff, ow_sh, ow_cells, ow_one, ow_mr, mrLL_app, szOK_app ] <;> fail) | (simp only [AV.mr, mrL, mrLL, mrB, mr_enc, shL, AV.sh, AV.cells, onesL, AV.one, szOK_enc, szOK_nil, szOK_cons, List.map_cons, List.map_nil, List.length_cons, List.length_nil, List.length_map, List.length_append, List.length_take, List.length_drop, Nat.max_self, Nat.zero_max, Nat.max_zero, Nat.zero_le, Nat.le_refl, Bool.and_self, Bool.true_and, Bool.and_true, beq_self_eq_true, and_self, true_and, and_true, Nat.reduceAdd, Nat.reduceEqDiff, Nat.reduceLeDiff, ow_sh, ow_cells, ow_one, ow_mr, mrLL_app, szOK_app ]; omega) | with_unfolding_all rfl | decide)) only [n_some, b_some, b2_some, sq_n, sq_e, sq_r, bk_n, bk_e, bk_o, bk_r, v_some, c_some, s_some, e_some, ex_tup, ex_some, h_some, k_nil, k_cons, d_skip, d_region, d_dregion, d_seq, d_cond, d_block, d_exit, d_ret, d_kill, if_t, if_f, p_nil, p_none, p_gd, gd_tt, gd_ft, gd_tf, gd_ff, gd_tup, pd_cons, pd_next, pd_nil, gd_n, gd_s, put_some, put_none, ev_tmp, ev_con, gd_zero, gd_succ, o_mov, o_take_t, o_take_c, o_pick, o_alloc, o_box_t, o_box_c, o_load, o_store_t, o_store_c, o_nilck, o_bin, o_un, o_cInt, o_cStr, o_cBytesStr, o_cStrBytes, o_faddr, o_iaddr, o_idxs, o_fld, o_lens, o_lenl, o_mkif, o_mkfn, o_extract, bn_none, bn_some, bndI_int, o_slice, o_append_t, o_append_c, o_build, o_bslice, o_bconv_t, o_eqb, o_isnil, o_slnil, o_mnmx, o_mkslice, o_call, o_pcall, pcl_ok, pp_some, o_callv, rv_fn, f_norm, f_ret, f2_some, one_1, one_0, one_2, r_nil, r_tmp, r_cell, rc_some, rb_some, gc_self, gc_set1, gc_drop1, gc_dropS, gc_nil, pick_t, pick_f, cInt_i, cStr_s, strBytes_s, bytes_enc, faddr_r, faddr_b, lens_s, lenl_s, lenl_b, nilck_b, nilck_r, nilck_f, eqb_b, isnil_np, isnil_bx, isnil_rf, isnil_ni, isnil_if, isnil_nm, isnil_mp, isnil_nf, isnil_fn, mnmx_mx, mnmx_mn, bin_shl, bin_shr, bin_add, bin_sub, bin_mul, bin_quo, bin_rem, bin_and, bin_or, bin_xor, bin_andNot, bin_eql, bin_neq, bin_lss, bin_leq, bin_gtr, bin_geq, bins_add, bins_eql, bins_neq, bins_lss, bins_leq, bins_gtr, bins_geq, un_not, un_neg, un_xor, load_box, lb_none, msh_some, lb_some, load_ref, head_cons, load_refs, fld_one, fld_agg, el_some, ia_sl, ia_bs, ia_ref, ia_box, slc_none, slc_some, slc_str, idx_s, by_some, nw_sl, nw_str, mr_enc, szOK_enc, szOK_nil, szOK_cons, bsl_ok, build_o, bld_some, fill_nil, fill_cons, st_box, stB_some, mks_ok, hp_get_new, hp_get_old, hp_set_new, hp_set_old, hp_get_set, hp_len_app, hp_len_set, hp_set_set, AV.sh, AV.cells, AV.one, onesL, shL, List.map_cons, List.map_nil, List.cons_append, List.nil_append, List.append_nil, List.append_assoc, List.length_cons, List.length_nil, List.replicate_succ, List.replicate_zero, List.set_cons_zero, List.set_cons_succ, List.getElem?_cons_zero, List.getElem?_cons_succ, shP, ovl, List.take_zero, List.drop_zero, List.take_succ_cons, List.drop_succ_cons, List.take_nil, List.drop_nil, allSz, mrL, mrLL, mrB, AV.mr, Nat.reduceAdd, Nat.reduceSub, Nat.reduceMul, Nat.reduceLeDiff, Nat.zero_add, Nat.add_zero, Nat.reduceEqDiff, Nat.reduceBEq, Nat.max_self, Nat.zero_max, Nat.max_zero, Nat.zero_le, Bool.and_self, Bool.true_and, Bool.and_true, beq_self_eq_true, true_and, and_true, and_self, true_or, or_true, if_true, if_false, reduceIte, reduceCtorEq, false_implies, true_implies, implies_true, Bool.false_eq_true, Nat.le_refl, Option.some.injEq, Prod.mk.injEq, AV.int.injEq, AV.bool.injEq, Option.getD_some, Option.getD_none, ow_nil, ow_sh, ow_cells, ow_one, ow_mr, ow_len, ow_news, ow_ia, ow_bytes, app_ow, app_ex, lk_n, lk_e, lk_r, bconv_own, Bool.not_true, Bool.not_false, bne_self_eq_false, beq_self_eq_true, Bool.bne_false, Bool.bne_true, hd, hg, he, hn', encB, hq]
    exact this

theorem bits_run {l : List UInt8} {h : AH} (hn : l.length ≤ 100000) : run T 50 [.sl .sh (l.map encB)] h = some (ow ((bitsL l).map encB), h) := by
  have hq := bits_out (h := h) hn l.length 0 rfl
  rw [List.take_zero, show ((0 : Nat) : Int) = 0 from rfl, show bitsL [] = [] from rfl, List.map_nil] at hq
  rw [run_code T_50]
  simp -implicitDefEqProofs (disch := (refine id_ok ?_; first | assumption | omega | (simp only [AV.mr, mrL, mrLL, mrB, mr_enc, shL, AV.sh, AV.cells, onesL, AV.one, szOK_enc, szOK_nil, szOK_cons, List.map_cons, List.map_nil, List.length_cons, List.length_nil, List.length_map, List.length_append, List.length_take, List.length_drop, Nat.max_self, Nat.zero_max, Nat.max_zero, Nat.zero_le, Nat.le_refl, Bool.and_self, Bool.true_and, Bool.and_true, beq_self_eq_true, and_self, true_and, and_true, Nat.reduceAdd, Nat.reduceEqDiff, Nat.reduceLeDiff, ow_sh, ow_cells, ow_one, ow_mr, mrLL_app, szOK_app ] <;> fail) | (simp only [AV.mr, mrL, mrLL, mrB, mr_enc, shL, AV.sh, AV.cells, onesL, AV.one, szOK_enc, szOK_nil, szOK_cons, List.map_cons, List.map_nil, List.length_cons, List.length_nil, List.length_map, List.length_append, List.length_take, List.length_drop, Nat.max_self, Nat.zero_max, Nat.max_zero, Nat.zero_le, Nat.le_refl, Bool.and_self, Bool.true_and, Bool.and_true, beq_self_eq_true, and_self, true_and, and_true, Nat.reduceAdd, Nat.reduceEqDiff, Nat.reduceLeDiff, ow_sh, ow_cells, ow_one, ow_mr, mrLL_app, szOK_app ]; omega) | with_unfolding_all rfl | decide)) only [n_some, b_some, b2_some, sq_n, sq_e, sq_r, bk_n, bk_e, bk_o, bk_r, v_some, c_some, s_some, e_some, ex_tup, ex_some, h_some, k_nil, k_cons, d_skip, d_region, d_dregion, d_seq, d_cond, d_block, d_exit, d_ret, d_kill, if_t, if_f, p_nil, p_none, p_gd, gd_tt, gd_ft, gd_tf, gd_ff, gd_tup, pd_cons, pd_next, pd_nil, gd_n, gd_s, put_some, put_none, ev_tmp, ev_con, gd_zero, gd_succ, o_mov, o_take_t, o_take_c, o_pick, o_alloc, o_box_t, o_box_c, o_load, o_store_t, o_store_c, o_nilck, o_bin, o_un, o_cInt, o_cStr, o_cBytesStr, o_cStrBytes, o_faddr, o_iaddr, o_idxs, o_fld, o_lens, o_lenl, o_mkif, o_mkfn, o_extract, bn_none, bn_some, bndI_int, o_slice, o_append_t, o_append_c, o_build, o_bslice, o_bconv_t, o_eqb, o_isnil, o_slnil, o_mnmx, o_mkslice, o_call, o_pcall, pcl_ok, pp_some, o_callv, rv_fn, f_norm, f_ret, f2_some, one_1, one_0, one_2, r_nil, r_tmp, r_cell, rc_some, rb_some, gc_self, gc_set1, gc_drop1, gc_dropS, gc_nil, pick_t, pick_f, cInt_i, cStr_s, strBytes_s, bytes_enc, faddr_r, faddr_b, lens_s, lenl_s, lenl_b, nilck_b, nilck_r, nilck_f, eqb_b, isnil_np, isnil_bx, isnil_rf, isnil_ni, isnil_if, isnil_nm, isnil_mp, isnil_nf, isnil_fn, mnmx_mx, mnmx_mn, bin_shl, bin_shr, bin_add, bin_sub, bin_mul, bin_quo, bin_rem, bin_and, bin_or, bin_xor, bin_andNot, bin_eql, bin_neq, bin_lss, bin_leq, bin_gtr, bin_geq, bins_add, bins_eql, bins_neq, bins_lss, bins_leq, bins_gtr, bins_geq, un_not, un_neg, un_xor, load_box, lb_none, msh_some, lb_some, load_ref, head_cons, load_refs, fld_one, fld_agg, el_some, ia_sl, ia_bs, ia_ref, ia_box, slc_none, slc_some, slc_str, idx_s, by_some, nw_sl, nw_str, mr_enc, szOK_enc, szOK_nil, szOK_cons, bsl_ok, build_o, bld_some, fill_nil, fill_cons, st_box, stB_some, mks_ok, hp_get_new, hp_get_old, hp_set_new, hp_set_old, hp_get_set, hp_len_app, hp_len_set, hp_set_set, AV.sh, AV.cells, AV.one, onesL, shL, List.map_cons, List.map_nil, List.cons_append, List.nil_append, List.append_nil, List.append_assoc, List.length_cons, List.length_nil, List.replicate_succ, List.replicate_zero, List.set_cons_zero, List.set_cons_succ, List.getElem?_cons_zero, List.getElem?_cons_succ, shP, ovl, List.take_zero, List.drop_zero, List.take_succ_cons, List.drop_succ_cons, List.take_nil, List.drop_nil, allSz, mrL, mrLL, mrB, AV.mr, Nat.reduceAdd, Nat.reduceSub, Nat.reduceMul, Nat.reduceLeDiff, Nat.zero_add, Nat.add_zero, Nat.reduceEqDiff, Nat.reduceBEq, Nat.max_self, Nat.zero_max, Nat.max_zero, Nat.zero_le, Bool.and_self, Bool.true_and, Bool.and_true, beq_self_eq_true, true_and, and_true, and_self, true_or, or_true, if_true, if_false, reduceIte, reduceCtorEq, false_implies, true_implies, implies_true, Bool.false_eq_true, Nat.le_refl, Option.some.injEq, Prod.mk.injEq, AV.int.injEq, AV.bool.injEq, Option.getD_some, Option.getD_none, ow_nil, ow_sh, ow_cells, ow_one, ow_mr, ow_len, ow_news, ow_ia, ow_bytes, app_ow, app_ex, lk_n, lk_e, lk_r, bconv_own, Bool.not_true, Bool.not_false, bne_self_eq_false, beq_self_eq_true, Bool.bne_false, Bool.bne_true, c_regencyref02_Bits, List.length_map, hq]
end Go.Proofs.Ytlehlpbhkfmkaaa.L
