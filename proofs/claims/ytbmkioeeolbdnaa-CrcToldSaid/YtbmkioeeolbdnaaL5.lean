/- The checksum: what it computes. -/
import Derived.Test.YtbmkioeeolbdnaaL1
set_option linter.all false
set_option maxRecDepth 100000
namespace Go.Proofs.Ytbmkioeeolbdnaa.L
open Go.Proofs.Ytbmkioeeolbdnaa.M Go.Proofs.Ytbmkioeeolbdnaa.F Go.Proofs

theorem m32 : (kb .u32) = 32 := rfl
theorem bvo (r : BitVec 32) : BitVec.ofInt 32 (r.toNat : Int) = r := by
  apply BitVec.eq_of_toNat_eq
  exact bv32 _ r.isLt
theorem wr (r : BitVec 32) : IntKind.u32.wrap (r.toNat : Int) = r.toNat := by rw [w32]; have := r.isLt; omega
theorem f_and (r : BitVec 32) : IntKind.u32.wrap ((BitVec.ofInt (kb .u32) (r.toNat : Int) &&& BitVec.ofInt (kb .u32) 1).toNat : Int) = ((r &&& 1#32).toNat : Int) := by
  rw [m32, bvo]; exact wr _
theorem f_xor (a b : BitVec 32) : IntKind.u32.wrap ((BitVec.ofInt (kb .u32) (a.toNat : Int) ^^^ BitVec.ofInt (kb .u32) (b.toNat : Int)).toNat : Int) = ((a ^^^ b).toNat : Int) := by
  rw [m32, bvo, bvo]; exact wr _
theorem f_not (r : BitVec 32) : IntKind.u32.wrap ((BitVec.ofInt (kb .u32) (if IntKind.u32.signed = true then -1 else IntKind.u32.max) ^^^ BitVec.ofInt (kb .u32) (r.toNat : Int)).toNat : Int) = ((~~~ r).toNat : Int) := by
  show IntKind.u32.wrap (((BitVec.ofInt 32 4294967295 ^^^ BitVec.ofInt 32 (r.toNat : Int)).toNat : Nat) : Int) = _
  rw [bvo, show BitVec.ofInt 32 4294967295 = BitVec.allOnes 32 from rfl, BitVec.allOnes_xor]; exact wr _
theorem f_shr (r : BitVec 32) : (r.toNat : Int).fdiv (2 ^ min (1 : Int).toNat (kb .u32)) = ((r >>> 1).toNat : Int) := by
  have : min (1 : Int).toNat (kb .u32) = 1 := by decide
  rw [this, Int.fdiv_eq_ediv_of_nonneg _ (by decide), BitVec.toNat_ushiftRight, Nat.shiftRight_eq_div_pow]; omega
theorem f_mul (q : BitVec 32) : IntKind.u32.wrap (3988292384 * (q.toNat : Int)) = ((3988292384#32 * q).toNat : Int) := by
  rw [w32, BitVec.toNat_mul]
  have : (3988292384#32).toNat = 3988292384 := rfl
  rw [this]; omega
theorem u8_32 (c : UInt8) : IntKind.u32.wrap (c.toNat : Int) = ((BitVec.ofNat 32 c.toNat).toNat : Int) := by
  rw [w32, BitVec.toNat_ofNat]; omega

/-- One bit. -/
def tb (r : BitVec 32) : BitVec 32 := (r >>> 1) ^^^ (3988292384#32 * (r &&& 1#32))
def tbs : Nat → BitVec 32 → BitVec 32
  | 0, r => r
  | n + 1, r => tbs n (tb r)
/-- One byte. -/
def ub (r : BitVec 32) (c : UInt8) : BitVec 32 := tbs 8 (r ^^^ BitVec.ofNat 32 c.toNat)
def crc (l : List UInt8) : BitVec 32 := ~~~ (l.foldl ub (~~~ 0#32))

theorem add_in {v0 v15 v16 v17 : AV} {h : AH} : ∀ (d k : Nat) (r : BitVec 32), d + k = 8 →
    den T (.loop l_crc_Sum_Add_1) (s_crc_Sum_Add_1 v0 (.int .u32 r.toNat) v15 v16 v17 (.int .i64 k)) h = some (.exit 2, x_crc_Sum_Add_2 v0 (.int .u32 (tbs d r).toNat) v15 v16 v17, h) := by
  intro d
  induction d with
  | zero =>
    intro k r hk
    have : k = 8 := by omega
    subst this
    rw [lp_round]
    simp -implicitDefEqProofs (disch := (refine id_ok ?_; first | assumption | omega | (simp only [go_sem, List.size_toArray, List.length_map, List.length_append, List.length_take, List.length_drop, List.length_cons, List.length_nil, mrLL_app, keyD_i, keyD_s, keyD_b, Nat.reduceAdd, Nat.reduceEqDiff, Nat.reduceLeDiff] <;> omega) | with_unfolding_all rfl | decide)) only [go_sem, Nat.reduceAdd, Nat.reduceSub, Nat.reduceMul, Nat.reduceLeDiff, Nat.reduceEqDiff, Nat.reduceBEq, reduceIte, reduceCtorEq, show decide (((8 : Nat) : Int) < 8) = false from rfl]
    rfl
  | succ d ih =>
    intro k r hk
    have hlt : k < 8 := by omega
    have hd : decide ((k : Int) < 8) = true := by simp; omega
    have hn' : IntKind.i64.wrap ((k : Int) + 1) = ((k + 1 : Nat) : Int) := by rw [w64 (by omega) (by omega)]; rfl
    rw [lp_round]
    simp -implicitDefEqProofs (disch := (refine id_ok ?_; first | assumption | omega | (simp only [go_sem, List.size_toArray, List.length_map, List.length_append, List.length_take, List.length_drop, List.length_cons, List.length_nil, mrLL_app, keyD_i, keyD_s, keyD_b, Nat.reduceAdd, Nat.reduceEqDiff, Nat.reduceLeDiff] <;> omega) | with_unfolding_all rfl | decide)) only [go_sem, Nat.reduceAdd, Nat.reduceSub, Nat.reduceMul, Nat.reduceLeDiff, Nat.reduceEqDiff, Nat.reduceBEq, reduceIte, reduceCtorEq, hd, hn', f_and, f_shr, f_mul, f_xor]
    exact ih (k + 1) (tb r) (by omega)

theorem foldl_ub_succ (r : BitVec 32) (l : List UInt8) (k : Nat) (b : UInt8) (h : l[k]? = some b) : (l.take (k + 1)).foldl ub r = ub ((l.take k).foldl ub r) b := by
  rw [List.take_add_one, h]; simp

theorem add_out {l : List UInt8} {v0 : AV} {r : BitVec 32} {h : AH} (hn : l.length < 140737488355328) : ∀ (d k : Nat), d + k = l.length →
    den T (.loop l_crc_Sum_Add_0) (s_crc_Sum_Add_0 v0 (.int .u32 ((l.take k).foldl ub r).toNat) (.sl .sh (l.map encB)) (.int .i64 l.length) (.int .i64 k)) h = some (.exit 0, x_crc_Sum_Add_0 v0 (.int .u32 (l.foldl ub r).toNat), h) := by
  intro d
  induction d with
  | zero =>
    intro k hk
    have : k = l.length := by omega
    subst this
    rw [lp_round, List.take_length]
    simp -implicitDefEqProofs (disch := (refine id_ok ?_; first | assumption | omega | (simp only [go_sem, List.size_toArray, List.length_map, List.length_append, List.length_take, List.length_drop, List.length_cons, List.length_nil, mrLL_app, keyD_i, keyD_s, keyD_b, Nat.reduceAdd, Nat.reduceEqDiff, Nat.reduceLeDiff] <;> omega) | with_unfolding_all rfl | decide)) only [go_sem, Nat.reduceAdd, Nat.reduceSub, Nat.reduceMul, Nat.reduceLeDiff, Nat.reduceEqDiff, Nat.reduceBEq, reduceIte, reduceCtorEq, show decide ((l.length : Int) < l.length) = false from by simp]
  | succ d ih =>
    intro k hk
    have hlt : k < l.length := by omega
    have hd : decide ((k : Int) < l.length) = true := by simp; omega
    have hc : l[k]? = some l[k] := by simp [hlt]
    have hg := get_enc hc
    have hn' : IntKind.i64.wrap ((k : Int) + 1) = ((k + 1 : Nat) : Int) := by rw [w64 (by omega) (by omega)]; rfl
    have he : (encB l[k]).length = 1 := rfl
    have hq := add_in (v0 := v0) (v15 := .sl .sh (l.map encB)) (v16 := .int .i64 l.length) (v17 := .int .i64 k) (h := h) 8 0 ((l.take k).foldl ub r ^^^ BitVec.ofNat 32 l[k].toNat) rfl
    rw [show ((0 : Nat) : Int) = 0 from rfl] at hq
    rw [lp_round]
    simp -implicitDefEqProofs (disch := (refine id_ok ?_; first | assumption | omega | (simp only [go_sem, List.size_toArray, List.length_map, List.length_append, List.length_take, List.length_drop, List.length_cons, List.length_nil, mrLL_app, keyD_i, keyD_s, keyD_b, Nat.reduceAdd, Nat.reduceEqDiff, Nat.reduceLeDiff] <;> omega) | with_unfolding_all rfl | decide)) only [go_sem, Nat.reduceAdd, Nat.reduceSub, Nat.reduceMul, Nat.reduceLeDiff, Nat.reduceEqDiff, Nat.reduceBEq, reduceIte, reduceCtorEq, hd, hg, he, hn', encB, u8_32, f_xor, hq]
    have := ih (k + 1) (by omega)
    rw [foldl_ub_succ _ _ _ _ hc] at this
    exact this

theorem add_run {id : Nat} {l : List UInt8} {s : BitVec 32} {h : AH} (hb : h[id]? = some (.cells [.int .u32 s.toNat])) (hn : l.length < 140737488355328) :
    run T 11 [.box id 0, .sl .sh (l.map encB)] h = some (.tup [], h.set id (.cells [.int .u32 (~~~ (l.foldl ub (~~~ s))).toNat])) := by
  have hl : id < h.length := (List.getElem?_eq_some_iff.1 hb).1
  have hq := add_out (l := l) (v0 := .box id 0) (r := ~~~ s) (h := h) hn l.length 0 rfl
  rw [List.take_zero, List.foldl_nil, show ((0 : Nat) : Int) = 0 from rfl] at hq
  rw [run_code T_11]
  simp -implicitDefEqProofs (disch := (refine id_ok ?_; first | assumption | omega | (simp only [go_sem, List.size_toArray, List.length_map, List.length_append, List.length_take, List.length_drop, List.length_cons, List.length_nil, mrLL_app, keyD_i, keyD_s, keyD_b, Nat.reduceAdd, Nat.reduceEqDiff, Nat.reduceLeDiff] <;> omega) | with_unfolding_all rfl | decide)) only [go_sem, Nat.reduceAdd, Nat.reduceSub, Nat.reduceMul, Nat.reduceLeDiff, Nat.reduceEqDiff, Nat.reduceBEq, reduceIte, reduceCtorEq, c_crc_Sum_Add, hb, f_not, List.length_map, hq]
theorem add_nil {x : AV} {h : AH} : run T 11 [.nilp, x] h = some (.tup [], h) := by
  rw [run_code T_11]
  simp -implicitDefEqProofs (disch := (refine id_ok ?_; first | assumption | omega | (simp only [go_sem, List.size_toArray, List.length_map, List.length_append, List.length_take, List.length_drop, List.length_cons, List.length_nil, mrLL_app, keyD_i, keyD_s, keyD_b, Nat.reduceAdd, Nat.reduceEqDiff, Nat.reduceLeDiff] <;> omega) | with_unfolding_all rfl | decide)) only [go_sem, Nat.reduceAdd, Nat.reduceSub, Nat.reduceMul, Nat.reduceLeDiff, Nat.reduceEqDiff, Nat.reduceBEq, reduceIte, reduceCtorEq, c_crc_Sum_Add]
theorem value_run {id : Nat} {s : BitVec 32} {h : AH} (hb : h[id]? = some (.cells [.int .u32 s.toNat])) : run T 12 [.box id 0] h = some (.int .u32 s.toNat, h) := by
  rw [run_code T_12]
  simp -implicitDefEqProofs (disch := (refine id_ok ?_; first | assumption | omega | (simp only [go_sem, List.size_toArray, List.length_map, List.length_append, List.length_take, List.length_drop, List.length_cons, List.length_nil, mrLL_app, keyD_i, keyD_s, keyD_b, Nat.reduceAdd, Nat.reduceEqDiff, Nat.reduceLeDiff] <;> omega) | with_unfolding_all rfl | decide)) only [go_sem, Nat.reduceAdd, Nat.reduceSub, Nat.reduceMul, Nat.reduceLeDiff, Nat.reduceEqDiff, Nat.reduceBEq, reduceIte, reduceCtorEq, c_crc_Sum_Value, hb]
theorem value_nil {h : AH} : run T 12 [.nilp] h = some (.int .u32 0, h) := by
  rw [run_code T_12]
  simp -implicitDefEqProofs (disch := (refine id_ok ?_; first | assumption | omega | (simp only [go_sem, List.size_toArray, List.length_map, List.length_append, List.length_take, List.length_drop, List.length_cons, List.length_nil, mrLL_app, keyD_i, keyD_s, keyD_b, Nat.reduceAdd, Nat.reduceEqDiff, Nat.reduceLeDiff] <;> omega) | with_unfolding_all rfl | decide)) only [go_sem, Nat.reduceAdd, Nat.reduceSub, Nat.reduceMul, Nat.reduceLeDiff, Nat.reduceEqDiff, Nat.reduceBEq, reduceIte, reduceCtorEq, c_crc_Sum_Value]
theorem crc_run {l : List UInt8} {h : AH} (hn : l.length < 140737488355328) : run T 7 [.sl .sh (l.map encB)] h = some (.int .u32 (crc l).toNat, h) := by
  rw [run_code T_7]
  simp -implicitDefEqProofs (disch := (refine id_ok ?_; first | assumption | omega | (simp only [go_sem, List.size_toArray, List.length_map, List.length_append, List.length_take, List.length_drop, List.length_cons, List.length_nil, mrLL_app, keyD_i, keyD_s, keyD_b, Nat.reduceAdd, Nat.reduceEqDiff, Nat.reduceLeDiff] <;> omega) | with_unfolding_all rfl | decide)) only [go_sem, Nat.reduceAdd, Nat.reduceSub, Nat.reduceMul, Nat.reduceLeDiff, Nat.reduceEqDiff, Nat.reduceBEq, reduceIte, reduceCtorEq, c_crc_Of, show (0 : Int) = ((0#32).toNat : Int) from rfl, add_run hp_get_new hn, value_run hp_get_new]
  rfl
end Go.Proofs.Ytbmkioeeolbdnaa.L
