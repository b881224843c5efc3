/- What is sealed, and opened. -/
import Derived.Test.YtbmkioeeolbdnaaL7
set_option linter.all false
set_option maxRecDepth 100000
namespace Go.Proofs.Ytbmkioeeolbdnaa.L
open Go.Proofs.Ytbmkioeeolbdnaa.M Go.Proofs.Ytbmkioeeolbdnaa.F Go.Proofs

theorem be4_one (v : BitVec 32) : [[AV.int .u8 ((UInt8.ofNat (v.toNat / 16777216 % 256)).toNat : Int)], [AV.int .u8 ((UInt8.ofNat (v.toNat / 65536 % 256)).toNat : Int)], [AV.int .u8 ((UInt8.ofNat (v.toNat / 256 % 256)).toNat : Int)], [AV.int .u8 ((UInt8.ofNat (v.toNat % 256)).toNat : Int)]] = (be4 v).map encB := by
  simp [be4, encB]
theorem str_add {a b : List UInt8} (h : a.length + b.length ≤ 9223372036854775807) : binV .add (.str ⟨a.toArray⟩) (.str ⟨b.toArray⟩) = some (.str ⟨(a ++ b).toArray⟩) := by
  have e : (⟨a.toArray⟩ : ByteArray) ++ ⟨b.toArray⟩ = ⟨(a ++ b).toArray⟩ := by
    apply ByteArray.ext
    rw [ByteArray.data_append]
    simp
  rw [bins_add (by show ((a.toArray.size + b.toArray.size : Nat) : Int) ≤ _; simp; omega), e]
theorem equal_loop {a b : List UInt8} {h : AH} (hl : a.length = b.length) (hn : a.length < 140737488355328) : ∀ (d k : Nat), d + k = a.length → a.take k = b.take k →
    (den T (.loop l_slices_Equal_byte_byte_0) (s_slices_Equal_byte_byte_0 (.sl .sh (a.map encB)) (.sl .sh (b.map encB)) (.int .i64 a.length) (.int .i64 k)) h = some (.exit 0, x_slices_Equal_byte_byte_0, h) ∧ a = b) ∨
    ∃ σ, den T (.loop l_slices_Equal_byte_byte_0) (s_slices_Equal_byte_byte_0 (.sl .sh (a.map encB)) (.sl .sh (b.map encB)) (.int .i64 a.length) (.int .i64 k)) h = some (.ret, σ, h) ∧ σ.getD 4 undefA = .bool false ∧ a ≠ b := by
  intro d
  induction d with
  | zero =>
    intro k hk he
    have : k = a.length := by omega
    subst this
    refine .inl ⟨?_, ?_⟩
    · rw [lp_round]
      simp -implicitDefEqProofs (disch := (refine id_ok ?_; first | assumption | omega | (simp only [go_sem, List.size_toArray, List.length_map, List.length_append, List.length_take, List.length_drop, List.length_cons, List.length_nil, mrLL_app, keyD_i, keyD_s, keyD_b, Nat.reduceAdd, Nat.reduceEqDiff, Nat.reduceLeDiff] <;> omega) | with_unfolding_all rfl | decide)) only [go_sem, Nat.reduceAdd, Nat.reduceSub, Nat.reduceMul, Nat.reduceLeDiff, Nat.reduceEqDiff, Nat.reduceBEq, reduceIte, reduceCtorEq, show decide ((a.length : Int) < a.length) = false from by simp]
    · rwa [List.take_length, hl, List.take_length] at he
  | succ d ih =>
    intro k hk he
    have hlt : k < a.length := by omega
    have hd : decide ((k : Int) < a.length) = true := by simp; omega
    have hca : a[k]? = some a[k] := by simp [hlt]
    have hcb : b[k]? = some (b[k]'(by omega)) := by simp
    have hga := get_enc hca
    have hgb := get_enc hcb
    have hn' : IntKind.i64.wrap ((k : Int) + 1) = ((k + 1 : Nat) : Int) := by rw [w64 (by omega) (by omega)]; rfl
    have hea : (encB a[k]).length = 1 := rfl
    have heb : (encB (b[k]'(by omega))).length = 1 := rfl
    have hne := ih (k + 1) (by omega)
    generalize hx : a[k] = x at *
    generalize hy : b[k]'(by omega) = y at *
    by_cases hxy : x = y
    · subst hxy
      have := hne (by rw [List.take_add_one, List.take_add_one, he, hca, hcb])
      rw [lp_round]
      simp -implicitDefEqProofs (disch := (refine id_ok ?_; first | assumption | omega | (simp only [go_sem, List.size_toArray, List.length_map, List.length_append, List.length_take, List.length_drop, List.length_cons, List.length_nil, mrLL_app, keyD_i, keyD_s, keyD_b, Nat.reduceAdd, Nat.reduceEqDiff, Nat.reduceLeDiff] <;> omega) | with_unfolding_all rfl | decide)) only [go_sem, Nat.reduceAdd, Nat.reduceSub, Nat.reduceMul, Nat.reduceLeDiff, Nat.reduceEqDiff, Nat.reduceBEq, reduceIte, reduceCtorEq, hd, hga, hgb, hea, heb, hn', encB]
      exact this
    · have hb : ((x.toNat : Int) != (y.toNat : Int)) = true := by
        simp only [bne_iff_ne, ne_eq]
        intro hh
        exact hxy (UInt8.toNat_inj.1 (by omega))
      right
      rw [lp_round]
      simp -implicitDefEqProofs (disch := (refine id_ok ?_; first | assumption | omega | (simp only [go_sem, List.size_toArray, List.length_map, List.length_append, List.length_take, List.length_drop, List.length_cons, List.length_nil, mrLL_app, keyD_i, keyD_s, keyD_b, Nat.reduceAdd, Nat.reduceEqDiff, Nat.reduceLeDiff] <;> omega) | with_unfolding_all rfl | decide)) only [go_sem, Nat.reduceAdd, Nat.reduceSub, Nat.reduceMul, Nat.reduceLeDiff, Nat.reduceEqDiff, Nat.reduceBEq, reduceIte, reduceCtorEq, hd, hga, hgb, hea, heb, hn', encB, hb]
      exact ⟨_, rfl, rfl, fun e => hxy (by rw [e, hcb] at hca; exact (Option.some.inj hca).symm)⟩

theorem equal_run {a b : List UInt8} {h : AH} (hn : a.length < 140737488355328) (hn2 : b.length < 140737488355328) : run T 10 [.sl .sh (a.map encB), .sl .sh (b.map encB)] h = some (.bool (decide (a = b)), h) := by
  rw [run_code T_10]
  by_cases hl : a.length = b.length
  · have hb : ((a.length : Int) != (b.length : Int)) = false := by rw [hl]; simp
    rcases equal_loop (h := h) hl hn a.length 0 rfl rfl with ⟨hq, hab⟩ | ⟨σ, hq, hs, hab⟩
    · rw [show ((0 : Nat) : Int) = 0 from rfl] at hq
      subst hab
      simp -implicitDefEqProofs (disch := (refine id_ok ?_; first | assumption | omega | (simp only [go_sem, List.size_toArray, List.length_map, List.length_append, List.length_take, List.length_drop, List.length_cons, List.length_nil, mrLL_app, keyD_i, keyD_s, keyD_b, Nat.reduceAdd, Nat.reduceEqDiff, Nat.reduceLeDiff] <;> omega) | with_unfolding_all rfl | decide)) only [go_sem, Nat.reduceAdd, Nat.reduceSub, Nat.reduceMul, Nat.reduceLeDiff, Nat.reduceEqDiff, Nat.reduceBEq, reduceIte, reduceCtorEq, c_slices_Equal_byte_byte, List.length_map, hb, hq, decide_true]
    · rw [show ((0 : Nat) : Int) = 0 from rfl] at hq
      simp -implicitDefEqProofs (disch := (refine id_ok ?_; first | assumption | omega | (simp only [go_sem, List.size_toArray, List.length_map, List.length_append, List.length_take, List.length_drop, List.length_cons, List.length_nil, mrLL_app, keyD_i, keyD_s, keyD_b, Nat.reduceAdd, Nat.reduceEqDiff, Nat.reduceLeDiff] <;> omega) | with_unfolding_all rfl | decide)) only [go_sem, Nat.reduceAdd, Nat.reduceSub, Nat.reduceMul, Nat.reduceLeDiff, Nat.reduceEqDiff, Nat.reduceBEq, reduceIte, reduceCtorEq, c_slices_Equal_byte_byte, List.length_map, hb, hq, hs]
      simp [hab]
  · have hb : ((a.length : Int) != (b.length : Int)) = true := by simp only [bne_iff_ne, ne_eq]; omega
    have hab : a ≠ b := fun e => hl (by rw [e])
    simp -implicitDefEqProofs (disch := (refine id_ok ?_; first | assumption | omega | (simp only [go_sem, List.size_toArray, List.length_map, List.length_append, List.length_take, List.length_drop, List.length_cons, List.length_nil, mrLL_app, keyD_i, keyD_s, keyD_b, Nat.reduceAdd, Nat.reduceEqDiff, Nat.reduceLeDiff] <;> omega) | with_unfolding_all rfl | decide)) only [go_sem, Nat.reduceAdd, Nat.reduceSub, Nat.reduceMul, Nat.reduceLeDiff, Nat.reduceEqDiff, Nat.reduceBEq, reduceIte, reduceCtorEq, c_slices_Equal_byte_byte, List.length_map, hb]
    simp [hab]

theorem sl_pre {m : Md} {l : List UInt8} {n : Nat} (h : n ≤ l.length) (hm : m ≠ .ex) : sliceV (some 1) (.sl m (l.map encB)) (some none) (some (some (n : Int))) (some none) = some (.sl .sh ((l.take n).map encB)) := by
  rw [slc_none (by decide) (by simp) (by simp; omega) szOK_enc, if_neg (fun x => hm x.1)]
  simp

def openP (b : List UInt8) : Prop := 4 ≤ b.length ∧ sealB (b.take (b.length - 4)) = b
theorem open_yes {b : List UInt8} {h : AH} (hn : b.length < 140737488350000) (ho : openP b) : run T 6 [.sl .sh (b.map encB)] h = some (.tup [ow ((b.take (b.length - 4)).map encB), .bool true], h) := by
  obtain ⟨h4, hs⟩ := ho
  have e1 : IntKind.i64.wrap ((b.length : Int) - 4) = ((b.length - 4 : Nat) : Int) := by rw [w64 (by omega) (by omega)]; omega
  have e2 : decide (((b.length - 4 : Nat) : Int) < 0) = false := by simp
  have e3 := sl_pre (m := .sh) (l := b) (n := b.length - 4) (by omega) (by decide)
  have e4 := seal_run (l := b.take (b.length - 4)) (h := []) (by rw [List.length_take]; omega)
  have e5 := equal_run (a := b) (b := b) (h := []) (by omega) (by omega)
  have e6 := clone_run (l := b.take (b.length - 4)) (h := []) (by rw [List.length_take]; omega)
  rw [decide_eq_true rfl] at e5
  rw [hs] at e4
  rw [run_code T_6]
  simp -implicitDefEqProofs (disch := (refine id_ok ?_; first | assumption | omega | (simp only [go_sem, List.size_toArray, List.length_map, List.length_append, List.length_take, List.length_drop, List.length_cons, List.length_nil, mrLL_app, keyD_i, keyD_s, keyD_b, Nat.reduceAdd, Nat.reduceEqDiff, Nat.reduceLeDiff] <;> omega) | with_unfolding_all rfl | decide)) only [go_sem, Nat.reduceAdd, Nat.reduceSub, Nat.reduceMul, Nat.reduceLeDiff, Nat.reduceEqDiff, Nat.reduceBEq, reduceIte, reduceCtorEq, c_crc_Open, List.length_map, e1, e2, e3, e4, e5, e6]
theorem open_no {b : List UInt8} {h : AH} (hn : b.length < 140737488350000) (ho : ¬ openP b) : run T 6 [.sl .sh (b.map encB)] h = some (.tup [ow [], .bool false], h) := by
  rw [run_code T_6]
  by_cases h4 : 4 ≤ b.length
  · have hs : sealB (b.take (b.length - 4)) ≠ b := fun e => ho ⟨h4, e⟩
    have e1 : IntKind.i64.wrap ((b.length : Int) - 4) = ((b.length - 4 : Nat) : Int) := by rw [w64 (by omega) (by omega)]; omega
    have e2 : decide (((b.length - 4 : Nat) : Int) < 0) = false := by simp
    have e3 := sl_pre (m := .sh) (l := b) (n := b.length - 4) (by omega) (by decide)
    have e4 := seal_run (l := b.take (b.length - 4)) (h := []) (by rw [List.length_take]; omega)
    have e5 := equal_run (a := sealB (b.take (b.length - 4))) (b := b) (h := []) (by rw [sealB_len, List.length_take]; omega) (by omega)
    rw [decide_eq_false hs] at e5
    simp -implicitDefEqProofs (disch := (refine id_ok ?_; first | assumption | omega | (simp only [go_sem, List.size_toArray, List.length_map, List.length_append, List.length_take, List.length_drop, List.length_cons, List.length_nil, mrLL_app, keyD_i, keyD_s, keyD_b, Nat.reduceAdd, Nat.reduceEqDiff, Nat.reduceLeDiff] <;> omega) | with_unfolding_all rfl | decide)) only [go_sem, Nat.reduceAdd, Nat.reduceSub, Nat.reduceMul, Nat.reduceLeDiff, Nat.reduceEqDiff, Nat.reduceBEq, reduceIte, reduceCtorEq, c_crc_Open, List.length_map, e1, e2, e3, e4, e5]
  · have e1 : IntKind.i64.wrap ((b.length : Int) - 4) = (b.length : Int) - 4 := by rw [w64 (by omega) (by omega)]
    have e2 : decide ((b.length : Int) - 4 < 0) = true := by simp; omega
    simp -implicitDefEqProofs (disch := (refine id_ok ?_; first | assumption | omega | (simp only [go_sem, List.size_toArray, List.length_map, List.length_append, List.length_take, List.length_drop, List.length_cons, List.length_nil, mrLL_app, keyD_i, keyD_s, keyD_b, Nat.reduceAdd, Nat.reduceEqDiff, Nat.reduceLeDiff] <;> omega) | with_unfolding_all rfl | decide)) only [go_sem, Nat.reduceAdd, Nat.reduceSub, Nat.reduceMul, Nat.reduceLeDiff, Nat.reduceEqDiff, Nat.reduceBEq, reduceIte, reduceCtorEq, c_crc_Open, List.length_map, e1, e2]
end Go.Proofs.Ytbmkioeeolbdnaa.L
