/- Slices that are built by append: nil at first, then owned. -/
import Derived.Test.YtibchilpaaiecaaGreatDoorM16
set_option linter.all false
namespace Go.Proofs.YtibchilpaaiecaaGreatDoor.M
open Go.RowKit
def ow (l : List (List AV)) : AV := if l.isEmpty then .sl .ex [] else .sl .own l
theorem ow_nil : AV.sl .ex [] = ow [] := rfl
theorem ow_cases (l : List (List AV)) : ∃ m, ow l = .sl m l ∧ m ≠ .sh := by
  cases l with
  | nil => exact ⟨.ex, rfl, by decide⟩
  | cons e l => exact ⟨.own, rfl, by decide⟩
theorem ow_sh {l : List (List AV)} : (ow l).sh = .sl .sh l := by obtain ⟨m, h, _⟩ := ow_cases l; rw [h]; rfl
theorem ow_cells {l : List (List AV)} : (ow l).cells = [ow l] := by obtain ⟨m, h, _⟩ := ow_cases l; rw [h]; rfl
theorem ow_one {l : List (List AV)} : (ow l).one = true := by obtain ⟨m, h, _⟩ := ow_cases l; rw [h]; rfl
theorem ow_mr {l : List (List AV)} : (ow l).mr = mrLL l := by obtain ⟨m, h, _⟩ := ow_cases l; rw [h]; rfl
section
variable {S bytes : Nat} {l fs : List (List AV)} {k k' : IntKind} {i : Int} {lo hi : Option Int}
theorem ow_len : lenlV (ow l) = some (.int .i64 l.length) := by obtain ⟨m, h, _⟩ := ow_cases l; rw [h]; rfl
theorem ow_news : newsV false (ow l) = some l := by obtain ⟨m, h, _⟩ := ow_cases l; rw [h]; rfl
theorem ow_ia (h0 : 0 ≤ i) : iaddrV S none (ow l) (.int k i) = elemV S l[i.toNat]? := by obtain ⟨m, h, _⟩ := ow_cases l; rw [h]; exact ia_sl h0
theorem ow_bytes {b : List UInt8} : bytesV (ow (b.map encB)) = some (.str ⟨b.toArray⟩) := by obtain ⟨m, h, _⟩ := ow_cases (b.map encB); rw [h]; exact bytes_enc
theorem app_ow (h2 : szOK S l = true) (h3 : szOK S fs = true) (h4 : (l.length + fs.length) * bytes ≤ 140737488355328) (h5 : l.length + fs.length ≤ 9223372036854775807) :
    appV S bytes (ow l) (some fs) = some (ow (l ++ fs)) := by
  obtain ⟨m, h, hm⟩ := ow_cases l
  rw [h, app_ok (by cases m <;> simp at hm ⊢ <;> rfl) h2 h3 h4 h5]
  cases fs with
  | nil => rw [apR_nil, List.append_nil, h]
  | cons f fs =>
    rw [apR_cons]
    obtain ⟨m', h', _⟩ := ow_cases (l ++ f :: fs)
    have : ow (l ++ f :: fs) = .sl .own (l ++ f :: fs) := by
      cases l <;> rfl
    rw [this]
theorem app_ex {f : List AV} (h2 : szOK S l = true) (h3 : szOK S (f :: fs) = true) (h4 : (l.length + (f :: fs).length) * bytes ≤ 140737488355328) (h5 : l.length + (f :: fs).length ≤ 9223372036854775807) :
    appV S bytes (.sl .ex l) (some (f :: fs)) = some (ow (l ++ f :: fs)) := by
  rw [app_ok rfl h2 h3 h4 h5, apR_cons]
  cases l <;> rfl
theorem szOK_app {a b : List (List AV)} (h1 : szOK S a = true) (h2 : szOK S b = true) : szOK S (a ++ b) = true := by
  cases a with
  | nil => exact h2
  | cons e a => exact h1
theorem mrLL_app : ∀ (a b : List (List AV)), mrLL (a ++ b) = max (mrLL a) (mrLL b)
  | [], b => by simp [mrLL]
  | e :: a, b => by simp only [List.cons_append, mrLL, mrLL_app a b]; omega
end
theorem bconv_own {es : List (List AV)} : bconvV (.sl .own es) = some (.sl .sh es) := rfl
theorem kills_get : ∀ (ws : List Nat) (σ : List AV) (i : Nat), (kills ws σ)[i]? = if i ∈ ws ∧ i < σ.length then some .any else σ[i]?
  | [], σ, i => by simp [kills]
  | j :: ws, σ, i => by
    rw [kills, kills_get ws]
    simp only [List.length_set, List.mem_cons]
    by_cases h1 : i ∈ ws ∧ i < σ.length
    · rw [if_pos h1, if_pos ⟨.inr h1.1, h1.2⟩]
    · rw [if_neg h1]
      by_cases h2 : i = j
      · subst h2
        by_cases h3 : i < σ.length
        · rw [List.getElem?_set_self h3, if_pos ⟨.inl rfl, h3⟩]
        · rw [if_neg (by omega), List.getElem?_eq_none (by simp; omega), List.getElem?_eq_none (by omega)]
      · rw [List.getElem?_set_ne (by omega), if_neg (by rintro ⟨h4 | h4, h5⟩; exact h2 h4; exact h1 ⟨h4, h5⟩)]
theorem kills_len : ∀ (ws : List Nat) (σ : List AV), (kills ws σ).length = σ.length
  | [], σ => rfl
  | j :: ws, σ => by rw [kills, kills_len ws, List.length_set]
theorem kills_kills (ws : List Nat) (σ : List AV) : kills ws (kills ws σ) = kills ws σ := by
  apply List.ext_getElem?
  intro i
  rw [kills_get, kills_get, kills_len]
  split <;> rfl
noncomputable def loopK (T : Tbl) (ws : List Nat) (c : CC) (e : Ex) (σ : List AV) (h : AH) : Option St :=
  match e with | .normal => den T (.loop (.kill ws c)) (kills ws σ) h | .exit i => some (.exit i, σ, h) | .ret => some (.ret, σ, h)
theorem lp_kill {T : Tbl} {ws : List Nat} {c : CC} {σ : List AV} {h : AH} : den T (.loop (.kill ws c)) σ h = den T (.loop (.kill ws c)) (kills ws σ) h := by
  rw [d_loop, d_kill, d_loop, d_kill, kills_kills]
theorem lp_round {T : Tbl} {ws : List Nat} {c : CC} {σ : List AV} {h : AH} : den T (.loop (.kill ws c)) σ h = bnd (den T c (kills ws σ) h) (loopK T ws c) := by
  rw [d_loop, d_kill]
  cases den T c (kills ws σ) h with
  | none => rfl
  | some r =>
    obtain ⟨e, σ', h'⟩ := r
    cases e
    · simp only [bnd, seqK, loopK]; rw [lp_kill]
    · rfl
    · rfl
section
variable {T : Tbl} {ws : List Nat} {c : CC} {σ σ' : List AV} {h h' : AH}
theorem lk_n : loopK T ws c .normal σ h = den T (.loop (.kill ws c)) (kills ws σ) h := rfl
theorem lk_e {i : Nat} : loopK T ws c (.exit i) σ h = some (.exit i, σ, h) := rfl
theorem lk_r : loopK T ws c .ret σ h = some (.ret, σ, h) := rfl
@[congr] theorem g_loopK {e : Ex} (h1 : σ = σ') (h2 : h = h') : loopK T ws c e σ h = loopK T ws c e σ' h' := by rw [h1, h2]
end
attribute [simp] mrLL_app keyD_i keyD_s keyD_b
attribute [go_sem] n_some b_some b2_some sq_n sq_e sq_r bk_n bk_e bk_o bk_r v_some c_some s_some e_some ex_tup ex_some h_some k_nil k_cons d_skip d_region d_dregion d_seq d_cond d_block d_exit d_ret d_kill d_rsplit d_both ag_self if_t if_f p_nil p_none p_gd gd_tt gd_ft gd_tf gd_ff gd_tup pd_cons pd_next pd_nil gd_n gd_s put_some put_none ev_tmp ev_con gd_zero gd_succ o_mov o_take_t o_take_c o_pick o_alloc o_box_t o_box_c o_load o_store_t o_store_c o_ltake ltk_box ltB_some ltC_some tp_some o_rbox rbox_ok gd_und o_nilck o_bin o_un o_cInt o_cStr o_cBytesStr o_cStrBytes o_faddr o_iaddr o_idxs o_idxa o_fld o_lens o_lenl o_mkif o_tass tass_n tass_y tass_o o_mkfn o_extract bn_none bn_some bndI_int o_slice o_append_t o_append_c o_build o_bslice o_bconv_t o_eqb o_isnil o_slnil o_mnmx o_mkslice o_call o_pcall pcl_ok pp_some o_callv rv_fn f_norm f_ret f2_some one_1 one_0 one_2 r_nil r_tmp r_cell rc_some rb_some gc_self gc_set1 gc_drop1 gc_dropS gc_nil pick_t pick_f cInt_i cStr_s strBytes_s bytes_enc faddr_r faddr_b lens_s lenl_s lenl_b nilck_b nilck_r nilck_f eqb_b isnil_np isnil_bx isnil_rf isnil_ni isnil_if isnil_nm isnil_mp isnil_nf isnil_fn mnmx_mx mnmx_mn bin_shl bin_shr bin_add bin_sub bin_mul bin_quo bin_rem bin_and bin_or bin_xor bin_andNot bin_eql bin_neq bin_lss bin_leq bin_gtr bin_geq bins_add bins_eql bins_neq bins_lss bins_leq bins_gtr bins_geq un_not un_neg un_xor load_box lb_none msh_some lb_some load_ref head_cons load_refs fld_one fld_agg el_some ia_sl ia_bs ia_ref ia_box slc_none slc_some slc_bs slc_str idx_s idxa_s by_some nw_sl nw_str mr_enc szOK_enc szOK_nil szOK_cons bsl_ok build_o bld_some fill_nil fill_cons st_box stB_some mks_ok hp_get_new hp_get_old hp_set_new hp_set_old hp_get_set hp_len_app hp_len_set hp_set_set AV.sh AV.cells AV.one onesL shL List.map_cons List.map_nil List.cons_append List.nil_append List.append_nil List.append_assoc List.length_cons List.length_nil List.replicate_succ List.replicate_zero List.set_cons_zero List.set_cons_succ List.getElem?_cons_zero List.getElem?_cons_succ shP ovl List.take_zero List.drop_zero List.take_succ_cons List.drop_succ_cons List.take_nil List.drop_nil allSz mrL mrLL mrB AV.mr Nat.zero_add Nat.add_zero Nat.max_self Nat.zero_max Nat.max_zero Nat.zero_le Bool.and_self Bool.true_and Bool.and_true beq_self_eq_true true_and and_true and_self true_or or_true if_true if_false false_implies true_implies implies_true Bool.false_eq_true Nat.le_refl Option.some.injEq Prod.mk.injEq AV.int.injEq AV.bool.injEq Option.getD_some Option.getD_none ow_nil ow_sh ow_cells ow_one ow_mr ow_len ow_news ow_ia ow_bytes app_ow app_ex lk_n lk_e lk_r bconv_own Bool.not_true Bool.not_false bne_self_eq_false beq_self_eq_true Bool.bne_false Bool.bne_true o_mkmap o_look o_lenm o_eqs o_mput o_clr clr_bs clrB_some ents_mp ents_nil entsB_some look_ok look2_some look3_some lookR_ns lookR_n lookR_ss lookR_s lenm_ok lenm2_some mput_mp mputB_some mputC_some eqs_ok eqs2_some szOK_app
end Go.Proofs.YtibchilpaaiecaaGreatDoor.M
