/- The text of a reply, the program's way. -/
import Derived.Test.YtjeigcnaalleiaaGreatDoorL61
set_option linter.all false
set_option maxRecDepth 100000
namespace Go.Proofs.YtjeigcnaalleiaaGreatDoor.L
open Go.Proofs.YtjeigcnaalleiaaGreatDoor.M Go.Proofs.YtjeigcnaalleiaaGreatDoor.F Go.Proofs

/-! ### hexadecimal digits -/
def hx (d : Nat) : UInt8 := if d < 10 then UInt8.ofNat (48 + d) else UInt8.ofNat (87 + d)
def hexL (l : List UInt8) : List UInt8 := l.flatMap fun c => [hx (c.toNat / 16), hx (c.toNat % 16)]
theorem hx_get {d : Nat} (h : d < 16) : ([48, 49, 50, 51, 52, 53, 54, 55, 56, 57, 97, 98, 99, 100, 101, 102] : List UInt8)[((d : Nat) : Int).toNat]? = some (hx d) := by
  match d, h with
  | 0, _ => rfl
  | 1, _ => rfl
  | 2, _ => rfl
  | 3, _ => rfl
  | 4, _ => rfl
  | 5, _ => rfl
  | 6, _ => rfl
  | 7, _ => rfl
  | 8, _ => rfl
  | 9, _ => rfl
  | 10, _ => rfl
  | 11, _ => rfl
  | 12, _ => rfl
  | 13, _ => rfl
  | 14, _ => rfl
  | 15, _ => rfl
  | d + 16, h => omega
theorem u8_shr (c : UInt8) : (c.toNat : Int).fdiv (2 ^ min (4 : Int).toNat (kb .u8)) = ((c.toNat / 16 : Nat) : Int) := by
  have : (2 : Int) ^ min (4 : Int).toNat (kb .u8) = 16 := by decide
  rw [this, Int.fdiv_eq_ediv_of_nonneg _ (by decide)]; rfl
theorem u8_and_f : ∀ n : Fin 256, IntKind.u8.wrap ((BitVec.ofInt (kb .u8) (n.val : Int) &&& BitVec.ofInt (kb .u8) 15).toNat : Int) = ((n.val % 16 : Nat) : Int) := by decide +kernel
theorem u8_and (c : UInt8) : IntKind.u8.wrap ((BitVec.ofInt (kb .u8) (c.toNat : Int) &&& BitVec.ofInt (kb .u8) 15).toNat : Int) = ((c.toNat % 16 : Nat) : Int) := u8_and_f ⟨c.toNat, c.toNat_lt⟩
theorem hexL_len (l : List UInt8) : (hexL l).length = 2 * l.length := by
  induction l with
  | nil => rfl
  | cons c r ih => simp only [hexL, List.flatMap_cons, List.length_append, List.length_cons, List.length_nil] at ih ⊢; omega
set_option maxHeartbeats 4000000 in
theorem dig_loop {l : List UInt8} {h : AH} (hll : l.length ≤ 100000) : ∀ (d i : Nat) (b : List UInt8), d + i = l.length → b.length ≤ 2 * i →
    den T (.loop l_reply_digits_0) (s_reply_digits_0 (ow (b.map encB)) (.sl .sh (l.map encB)) (.int .i64 l.length) (.int .i64 i)) h = some (.exit 0, x_reply_digits_0 (ow ((b ++ hexL (l.drop i)).map encB)), h) := by
  intro d
  induction d with
  | zero =>
    intro i b hd hb
    have hd' : decide ((i : Int) < l.length) = false := decide_eq_false (by omega)
    rw [List.drop_eq_nil_of_le (by omega), hexL, List.flatMap_nil, List.append_nil]
    rw [lp_round]
    simp -implicitDefEqProofs (disch := (refine id_ok ?_; first | assumption | omega | (simp only [go_sem, List.size_toArray, List.length_map, List.length_append, List.length_take, List.length_drop, List.length_cons, List.length_nil, mrLL_app, keyD_i, keyD_s, keyD_b, Nat.reduceAdd, Nat.reduceEqDiff, Nat.reduceLeDiff] <;> omega) | with_unfolding_all rfl | decide)) only [go_sem, Nat.reduceAdd, Nat.reduceSub, Nat.reduceMul, Nat.reduceLeDiff, Nat.reduceEqDiff, Nat.reduceBEq, reduceIte, reduceCtorEq, hd']
  | succ d ih =>
    intro i b hd hb
    have hib : i < l.length := by omega
    have hd' : decide ((i : Int) < l.length) = true := decide_eq_true (by omega)
    have hge : (l.map encB)[(i : Int).toNat]? = some (encB l[i]) := by simp [hib]
    have hdr : l.drop i = l[i] :: l.drop (i + 1) := List.drop_eq_getElem_cons hib
    rw [hdr]
    generalize l[i] = c at *
    have hc := c.toNat_lt
    have e1 := u8_shr c
    have e2 := u8_and c
    have g1 := hx_get (d := c.toNat / 16) (by omega)
    have g2 := hx_get (d := c.toNat % 16) (by omega)
    have e7 := incN (n := i) (by omega)
    have hml : (b.map encB).length = b.length := List.length_map ..
    have ih' := ih (i + 1) (b ++ [hx (c.toNat / 16), hx (c.toNat % 16)]) (by omega) (by simp; omega)
    simp only [hexL, List.flatMap_cons, List.append_assoc] at ih' ⊢
    simp only [encB, List.map_append, List.map_cons, List.map_nil] at ih' ⊢
    simp only [encB] at hge hml
    rw [lp_round]
    simp (maxSteps := 2000000) -implicitDefEqProofs (disch := (refine id_ok ?_; first | assumption | omega | (simp only [go_sem, List.size_toArray, List.length_map, List.length_append, List.length_take, List.length_drop, List.length_cons, List.length_nil, mrLL_app, keyD_i, keyD_s, keyD_b, Nat.reduceAdd, Nat.reduceEqDiff, Nat.reduceLeDiff] <;> omega) | with_unfolding_all rfl | decide)) only [go_sem, Nat.reduceAdd, Nat.reduceSub, Nat.reduceMul, Nat.reduceLeDiff, Nat.reduceEqDiff, Nat.reduceBEq, reduceIte, reduceCtorEq, hd', hge, e1, e2, g1, g2, e7, hml]
    exact ih'
theorem dig_run {l : List UInt8} (hll : l.length ≤ 100000) : run T 59 [.sl .sh (l.map encB)] [] = some (.str ⟨(hexL l).toArray⟩, []) := by
  have hlp := dig_loop (h := []) hll l.length 0 [] (by omega) (by simp)
  simp only [List.drop_zero, List.map_nil, List.nil_append, show ((0 : Nat) : Int) = 0 from rfl] at hlp
  rw [run_code T_59]
  simp (maxSteps := 2000000) -implicitDefEqProofs (disch := (refine id_ok ?_; first | assumption | omega | (simp only [go_sem, List.size_toArray, List.length_map, List.length_append, List.length_take, List.length_drop, List.length_cons, List.length_nil, mrLL_app, keyD_i, keyD_s, keyD_b, Nat.reduceAdd, Nat.reduceEqDiff, Nat.reduceLeDiff] <;> omega) | with_unfolding_all rfl | decide)) only [go_sem, Nat.reduceAdd, Nat.reduceSub, Nat.reduceMul, Nat.reduceLeDiff, Nat.reduceEqDiff, Nat.reduceBEq, reduceIte, reduceCtorEq, c_reply_digits, List.length_map, hlp]

/-! ### kids -/
def kidT (k : Kd) : List UInt8 := Lib.itoa k.1 ++ 58 :: (Lib.itoa k.2.1 ++ 58 :: Lib.itoa k.2.2)
def okK (k : Kd) : Prop := i64 k.1 ∧ i64 k.2.1 ∧ i64 k.2.2
theorem kidT_len {k : Kd} (h : okK k) : (kidT k).length ≤ 70 := by
  have := itoa_len h.1.1 h.1.2
  have := itoa_len h.2.1.1 h.2.1.2
  have := itoa_len h.2.2.1 h.2.2.2
  simp only [kidT, List.length_append, List.length_cons]; omega
set_option maxHeartbeats 8000000 in
theorem ktx_loop {W : AV} {l : List Kd} (hl : ∀ k ∈ l, okK k) (hll : l.length ≤ 1000) : ∀ (d i : Nat) (js : AH) (p : List (List UInt8)), d + i = l.length → p.length ≤ 10000 + i →
    den T (.loop l_reply_Text_0) (s_reply_Text_0 W (ow (p.map encT)) (.sl .sh (l.map encK)) (.int .i64 l.length) (.int .i64 i)) js = some (.exit 0, x_reply_Text_0 W (ow ((p ++ (l.drop i).map kidT).map encT)), js ++ (l.drop i).map bxK) := by
  intro d
  induction d with
  | zero =>
    intro i js p hd hb
    have hd' : decide ((i : Int) < l.length) = false := decide_eq_false (by omega)
    rw [List.drop_eq_nil_of_le (by omega), List.map_nil, List.append_nil, List.map_nil, List.append_nil]
    rw [lp_round]
    simp -implicitDefEqProofs (disch := (refine id_ok ?_; first | assumption | omega | (simp only [go_sem, List.size_toArray, List.length_map, List.length_append, List.length_take, List.length_drop, List.length_cons, List.length_nil, mrLL_app, keyD_i, keyD_s, keyD_b, Nat.reduceAdd, Nat.reduceEqDiff, Nat.reduceLeDiff] <;> omega) | with_unfolding_all rfl | decide)) only [go_sem, Nat.reduceAdd, Nat.reduceSub, Nat.reduceMul, Nat.reduceLeDiff, Nat.reduceEqDiff, Nat.reduceBEq, reduceIte, reduceCtorEq, hd']
  | succ d ih =>
    intro i js p hd hb
    have hib : i < l.length := by omega
    have hd' : decide ((i : Int) < l.length) = true := decide_eq_true (by omega)
    have hge : (l.map encK)[(i : Int).toNat]? = some (encK l[i]) := by simp [hib]
    have hdr : l.drop i = l[i] :: l.drop (i + 1) := List.drop_eq_getElem_cons hib
    have hcl := hl l[i] (by simp)
    rw [hdr]
    generalize l[i] = e at *
    obtain ⟨a, b, c⟩ := e
    obtain ⟨ha, hb', hc⟩ := hcl
    simp only at ha hb' hc
    have h1 := itoa_len ha.1 ha.2
    have h2 := itoa_len hb'.1 hb'.2
    have h3 := itoa_len hc.1 hc.2
    have t1 := itoa_run (h := []) ha.1 ha.2
    have t2 := itoa_run (h := []) hb'.1 hb'.2
    have t3 := itoa_run (h := []) hc.1 hc.2
    have e7 := incN (n := i) (by omega)
    have ih' := ih (i + 1) (js ++ [bxK (a, b, c)]) (p ++ [kidT (a, b, c)]) (by omega) (by simp; omega)
    have hap : (p ++ [kidT (a, b, c)]).map encT = p.map encT ++ [[.str ⟨(Lib.itoa a ++ 58 :: (Lib.itoa b ++ 58 :: Lib.itoa c)).toArray⟩]] := by simp [encT, kidT]
    have hml : (p.map encT).length = p.length := List.length_map ..
    rw [hap] at ih'
    simp only [List.map_cons, List.append_assoc, List.singleton_append] at ih' ⊢
    simp only [bxK, encK] at ih' ⊢
    rw [lp_round]
    simp (maxSteps := 2000000) -implicitDefEqProofs (disch := (refine id_ok ?_; first | assumption | omega | (simp only [go_sem, List.size_toArray, List.length_map, List.length_append, List.length_take, List.length_drop, List.length_cons, List.length_nil, mrLL_app, keyD_i, keyD_s, keyD_b, Nat.reduceAdd, Nat.reduceEqDiff, Nat.reduceLeDiff] <;> omega) | with_unfolding_all rfl | decide)) only [go_sem, Nat.reduceAdd, Nat.reduceSub, Nat.reduceMul, Nat.reduceLeDiff, Nat.reduceEqDiff, Nat.reduceBEq, reduceIte, reduceCtorEq, hd', hge, encK, app_get0, app_set0, t1, t2, t3, e7, hml, List.append_assoc, List.cons_append, List.nil_append]
    exact ih'

/-! ### the words, one after the other -/
structure WW (W : AV) (l : List (List UInt8)) : Prop where
  sh : W.sh = .sl .sh (l.map encT)
  app : ∀ x, appV 1 16 W (some [[.str x]]) = some (ow (l.map encT ++ [[.str x]]))
def okW (k : Nat) (l : List (List UInt8)) : Prop := l.length ≤ k ∧ ∀ x ∈ l, x.length ≤ 2000000000
theorem WW.ow {l : List (List UInt8)} {k : Nat} (h : okW k l) (hk : k ≤ 100) : WW (ow (l.map encT)) l := by
  have h1 := h.1
  refine ⟨ow_sh, fun x => app_ow szOK_T rfl ?_ ?_⟩ <;> simp only [List.length_map, List.length_cons, List.length_nil] <;> omega
theorem WW.one {x : List UInt8} : WW (.sl .ex [[.str ⟨x.toArray⟩]]) [x] := ⟨rfl, fun y => app_ex rfl rfl (by simp) (by simp)⟩
theorem okW.snoc {k : Nat} {l : List (List UInt8)} {x : List UInt8} (h : okW k l) (hx : x.length ≤ 2000000000) : okW (k + 1) (l ++ [x]) := by
  refine ⟨by have := h.1; simp; omega, fun y hy => ?_⟩
  rcases List.mem_append.1 hy with hy | hy
  · exact h.2 y hy
  · rw [List.mem_singleton.1 hy]; exact hx
theorem okW.mono {k k' : Nat} {l : List (List UInt8)} (h : okW k l) (hk : k ≤ k') : okW k' l := ⟨Nat.le_trans h.1 hk, h.2⟩
theorem okW.join {k : Nat} {l : List (List UInt8)} (h : okW k l) (hk : k ≤ 100) : l.length ≤ 140737488355328 ∧ (Lib.join l [32]).length ≤ 140737488355328 := by
  have h1 := h.1
  have := join_le (sep := [32]) h.2
  have h2 : l.length * (2000000000 + [32].length) ≤ 100 * 2000000001 := Nat.mul_le_mul (by omega) (by simp)
  have : ([32] : List UInt8).length = 1 := rfl
  exact ⟨by omega, by omega⟩
theorem map_snoc {l : List (List UInt8)} {x : List UInt8} : l.map encT ++ [[.str ⟨x.toArray⟩]] = (l ++ [x]).map encT := by simp [encT]
theorem WW.ow' {l : List (List UInt8)} {x : List UInt8} {k : Nat} (h : okW k (l ++ [x])) (hk : k ≤ 100) : WW (M.ow (l.map encT ++ [[.str ⟨x.toArray⟩]])) (l ++ [x]) := by
  rw [map_snoc]; exact WW.ow h hk
def hdW (r : Rep) : List UInt8 := if r.e = 0 then [111, 107] else [101, 114, 114, 111, 114, 32] ++ Lib.itoa r.e
def numW (r : Rep) : List (List UInt8) := if r.n = 0 then [] else [Lib.itoa r.n]
def texW (r : Rep) : List (List UInt8) := if r.text = [] then [] else [hexL r.text]
def catW (r : Rep) : List (List UInt8) := if r.cat = [] then [] else [r.cat]
def labW (r : Rep) : List (List UInt8) := if r.label = [] then [] else [labT r.label]
def kidW (r : Rep) : List (List UInt8) := if r.kids = [] then [] else [Lib.join (r.kids.map kidT) [44]]
structure okX (r : Rep) : Prop where
  e : i64 r.e
  n : i64 r.n
  text : r.text.length ≤ 1000
  cat : r.cat.length ≤ 1000
  label : r.label.length ≤ 1000
  ents : ∀ e ∈ r.label, okE e
  kids : r.kids.length ≤ 1000
  kid : ∀ k ∈ r.kids, okK k
theorem labT_len {r : Rep} (h : okX r) : (labT r.label).length ≤ 2000000000 := by
  unfold labT
  split
  · simp
  · have := join_le (B := 1048600) (sep := [44]) (l := r.label.map lblT) (fun x hx => by obtain ⟨e, he, rfl⟩ := List.mem_map.1 hx; exact lblT_len (h.ents e he))
    rw [List.length_map, List.length_singleton] at this
    have : r.label.length * (1048600 + 1) ≤ 1000 * 1048601 := Nat.mul_le_mul h.label (Nat.le_refl _)
    omega
theorem kidW_len {r : Rep} (h : okX r) : (Lib.join (r.kids.map kidT) [44]).length ≤ 2000000000 := by
  have := join_le (B := 70) (sep := [44]) (l := r.kids.map kidT) (fun x hx => by obtain ⟨e, he, rfl⟩ := List.mem_map.1 hx; exact kidT_len (h.kid e he))
  rw [List.length_map, List.length_singleton] at this
  have : r.kids.length * (70 + 1) ≤ 1000 * 71 := Nat.mul_le_mul h.kids (Nat.le_refl _)
  omega
theorem len_pos {α : Type} {l : List α} (h : l ≠ []) : decide ((l.length : Int) > 0) = true := decide_eq_true (by have : l.length ≠ 0 := fun e => h (List.length_eq_zero_iff.1 e); omega)
def rtx_11 : CC := .ret
def rtx_10 : CC := .seq (.region [⟨some 85, .take (.tmp 3), none⟩, ⟨some 86, .pcall 61 [(.tmp 85), (.con (.str ⟨#[32]⟩))], none⟩, ⟨some 2, .mov (.tmp 86), none⟩]) rtx_11
def rtx_9 : CC := .seq (.seq (.region [⟨some 77, .mov (.tmp 4), none⟩, ⟨some 78, .lenl (.tmp 77), none⟩, ⟨some 79, .bin .gtr (.tmp 78) (.con (.int .i64 0)), none⟩]) (.cond (.tmp 79) (.region [⟨some 80, .take (.tmp 3), none⟩, ⟨some 81, .take (.tmp 4), none⟩, ⟨some 82, .pcall 61 [(.tmp 81), (.con (.str ⟨#[44]⟩))], none⟩, ⟨some 83, .bslice 1 false [(.tmp 82)], none⟩, ⟨some 84, .append 1 16 false (.tmp 80) (.tmp 83), none⟩, ⟨some 3, .take (.tmp 84), none⟩]) (.skip))) rtx_10
def rtx_8 : CC := .seq (.seq (.region [⟨some 53, .faddr 5 (.tmp 1), none⟩, ⟨some 54, .load none (.tmp 53), none⟩, ⟨some 55, .lenl (.tmp 54), none⟩, ⟨some 56, .mov (.con (.int .i64 0)), none⟩]) (.block 0 (.kill [0, 1, 2, 6, 7, 8, 9, 10, 11, 12, 13, 14, 15, 16, 17, 18, 19, 20, 21, 22, 23, 24, 25, 26, 27, 28, 29, 30, 31, 32, 33, 34, 35, 36, 37, 38, 39, 40, 41, 42, 43, 44, 45, 46, 47, 48, 49, 50, 51, 52, 53, 57, 58, 59, 60, 61, 62, 63, 64, 65, 66, 67, 68, 69, 70, 71, 72, 73, 74, 75, 76] (.loop l_reply_Text_0)))) rtx_9
def rtx_7 : CC := .seq (.region [⟨some 4, .take (.con (.sl .ex [])), none⟩]) rtx_8
def rtx_6 : CC := .seq (.seq (.region [⟨some 43, .faddr 4 (.tmp 1), none⟩, ⟨some 44, .load none (.tmp 43), none⟩, ⟨some 45, .lenl (.tmp 44), none⟩, ⟨some 46, .bin .gtr (.tmp 45) (.con (.int .i64 0)), none⟩]) (.cond (.tmp 46) (.region [⟨some 47, .take (.tmp 3), none⟩, ⟨some 48, .faddr 4 (.tmp 1), none⟩, ⟨some 49, .load none (.tmp 48), none⟩, ⟨some 50, .pcall 60 [(.tmp 49)], none⟩, ⟨some 51, .bslice 1 false [(.tmp 50)], none⟩, ⟨some 52, .append 1 16 false (.tmp 47) (.tmp 51), none⟩, ⟨some 3, .take (.tmp 52), none⟩]) (.skip))) rtx_7
def rtx_5 : CC := .seq (.seq (.region [⟨some 35, .faddr 3 (.tmp 1), none⟩, ⟨some 36, .load none (.tmp 35), none⟩, ⟨some 37, .bin .neq (.tmp 36) (.con (.str ⟨#[]⟩)), none⟩]) (.cond (.tmp 37) (.region [⟨some 38, .take (.tmp 3), none⟩, ⟨some 39, .faddr 3 (.tmp 1), none⟩, ⟨some 40, .load none (.tmp 39), none⟩, ⟨some 41, .bslice 1 false [(.tmp 40)], none⟩, ⟨some 42, .append 1 16 false (.tmp 38) (.tmp 41), none⟩, ⟨some 3, .take (.tmp 42), none⟩]) (.skip))) rtx_6
def rtx_4 : CC := .seq (.seq (.region [⟨some 25, .faddr 2 (.tmp 1), none⟩, ⟨some 26, .load none (.tmp 25), none⟩, ⟨some 27, .lenl (.tmp 26), none⟩, ⟨some 28, .bin .gtr (.tmp 27) (.con (.int .i64 0)), none⟩]) (.cond (.tmp 28) (.region [⟨some 29, .take (.tmp 3), none⟩, ⟨some 30, .faddr 2 (.tmp 1), none⟩, ⟨some 31, .load none (.tmp 30), none⟩, ⟨some 32, .pcall 59 [(.tmp 31)], none⟩, ⟨some 33, .bslice 1 false [(.tmp 32)], none⟩, ⟨some 34, .append 1 16 false (.tmp 29) (.tmp 33), none⟩, ⟨some 3, .take (.tmp 34), none⟩]) (.skip))) rtx_5
def rtx_3 : CC := .seq (.seq (.region [⟨some 16, .faddr 1 (.tmp 1), none⟩, ⟨some 17, .load none (.tmp 16), none⟩, ⟨some 18, .bin .neq (.tmp 17) (.con (.int .i64 0)), none⟩]) (.cond (.tmp 18) (.region [⟨some 19, .take (.tmp 3), none⟩, ⟨some 20, .faddr 1 (.tmp 1), none⟩, ⟨some 21, .load none (.tmp 20), none⟩, ⟨some 22, .pcall 58 [(.tmp 21)], none⟩, ⟨some 23, .bslice 1 false [(.tmp 22)], none⟩, ⟨some 24, .append 1 16 false (.tmp 19) (.tmp 23), none⟩, ⟨some 3, .take (.tmp 24), none⟩]) (.skip))) rtx_4
def rtx_2 : CC := .seq (.seq (.region [⟨some 8, .faddr 0 (.tmp 1), none⟩, ⟨some 9, .load none (.tmp 8), none⟩, ⟨some 10, .bin .neq (.tmp 9) (.con (.int .i64 0)), none⟩]) (.cond (.tmp 10) (.region [⟨some 11, .faddr 0 (.tmp 1), none⟩, ⟨some 12, .load none (.tmp 11), none⟩, ⟨some 13, .pcall 58 [(.tmp 12)], none⟩, ⟨some 14, .bin .add (.con (.str ⟨#[101, 114, 114, 111, 114, 32]⟩)) (.tmp 13), none⟩, ⟨some 15, .bslice 1 false [(.tmp 14)], none⟩, ⟨some 3, .take (.tmp 15), none⟩]) (.skip))) rtx_3
def rtx_1 : CC := .seq (.region [⟨some 7, .bslice 1 false [(.con (.str ⟨#[111, 107]⟩))], none⟩, ⟨some 3, .take (.tmp 7), none⟩]) rtx_2
def rtx_0 : CC := .seq (.region [⟨some 1, .box (.tmp 0), none⟩, ⟨some 2, .mov (.con (.str ⟨#[]⟩)), none⟩]) rtx_1
theorem rtx_eq : c_reply_Text = ⟨87, rtx_0, [.tmp 2]⟩ := rfl
set_option maxHeartbeats 16000000 in
theorem rt7 {r : Rep} (hr : okX r) {W : AV} {l : List (List UInt8)} (hW : WW W l) (hl : okW 10 l) {v0 v2 v7 v8 v9 v10 v11 v12 v13 v14 v15 v16 v17 v18 v19 v20 v21 v22 v23 v24 v25 v26 v27 v28 v29 v30 v31 v32 v33 v34 v35 v36 v37 v38 v39 v40 v41 v42 v43 v44 v45 v46 v47 v48 v49 v50 v51 v52 : AV} :
    ∃ σ', den T rtx_7 [v0, .box 0 0, v2, W, undefA, undefA, undefA, v7, v8, v9, v10, v11, v12, v13, v14, v15, v16, v17, v18, v19, v20, v21, v22, v23, v24, v25, v26, v27, v28, v29, v30, v31, v32, v33, v34, v35, v36, v37, v38, v39, v40, v41, v42, v43, v44, v45, v46, v47, v48, v49, v50, v51, v52, undefA, undefA, undefA, undefA, undefA, undefA, undefA, undefA, undefA, undefA, undefA, undefA, undefA, undefA, undefA, undefA, undefA, undefA, undefA, undefA, undefA, undefA, undefA, undefA, undefA, undefA, undefA, undefA, undefA, undefA, undefA, undefA, undefA, undefA] [.cells (encR r)] = some (.ret, σ', .cells (encR r) :: r.kids.map bxK) ∧ σ'.getD 2 undefA = .str ⟨(Lib.join (l ++ kidW r) [32]).toArray⟩ := by
  have hlp := ktx_loop (W := W) hr.kid hr.kids r.kids.length 0 [.cells (encR r)] [] (by omega) (by simp)
  simp only [List.drop_zero, List.map_nil, List.nil_append, show ((0 : Nat) : Int) = 0 from rfl, List.cons_append] at hlp
  have hs := hW.sh
  have ha := hW.app
  have hj := hl.join (by decide)
  have j1 := fun h => join_run (sep := [32]) (h := h) hj.1 hj.2
  have hkl := kidW_len hr
  have hkk := hr.kids
  have j2 := fun h => join_run (l := r.kids.map kidT) (sep := [44]) (h := h) (by rw [List.length_map]; omega) (by omega)
  have hc : ∀ s : List UInt8, (⟨#[44]⟩ : ByteArray) = ⟨[44].toArray⟩ := fun _ => rfl
  unfold kidW
  simp only [encR] at hlp ⊢
  unfold rtx_7 rtx_8 rtx_9 rtx_10 rtx_11
  by_cases h0 : r.kids = []
  · rw [if_pos h0, List.append_nil]
    have hp : decide ((r.kids.length : Int) > 0) = false := by rw [h0]; rfl
    simp (maxSteps := 4000000) -implicitDefEqProofs (disch := (refine id_ok ?_; first | assumption | omega | (simp only [go_sem, List.size_toArray, List.length_map, List.length_append, List.length_take, List.length_drop, List.length_cons, List.length_nil, mrLL_app, keyD_i, keyD_s, keyD_b, Nat.reduceAdd, Nat.reduceEqDiff, Nat.reduceLeDiff] <;> omega) | with_unfolding_all rfl | decide)) only [go_sem, Nat.reduceAdd, Nat.reduceSub, Nat.reduceMul, Nat.reduceLeDiff, Nat.reduceEqDiff, Nat.reduceBEq, reduceIte, reduceCtorEq, encR, List.length_map, hlp, hs, j1, hp]
    try exact ⟨_, rfl, rfl⟩
  · rw [if_neg h0]
    have hp := len_pos h0
    have hl2 := hl.snoc hkl
    have hw2 := (WW.ow hl2 (by decide)).sh
    have hj2 := hl2.join (by decide)
    have j3 := fun h => join_run (sep := [32]) (h := h) hj2.1 hj2.2
    simp (maxSteps := 4000000) -implicitDefEqProofs (disch := (refine id_ok ?_; first | assumption | omega | (simp only [go_sem, List.size_toArray, List.length_map, List.length_append, List.length_take, List.length_drop, List.length_cons, List.length_nil, mrLL_app, keyD_i, keyD_s, keyD_b, Nat.reduceAdd, Nat.reduceEqDiff, Nat.reduceLeDiff] <;> omega) | with_unfolding_all rfl | decide)) only [go_sem, Nat.reduceAdd, Nat.reduceSub, Nat.reduceMul, Nat.reduceLeDiff, Nat.reduceEqDiff, Nat.reduceBEq, reduceIte, reduceCtorEq, encR, List.length_map, hlp, hs, ha, j2, hp, map_snoc, ow_sh, j3]
    try exact ⟨_, rfl, rfl⟩
theorem wc6 {l K : List (List UInt8)} {x : List UInt8} : l ++ ([x] ++ K) = (l ++ [x]) ++ K := by simp
set_option maxHeartbeats 16000000 in
theorem rt6 {r : Rep} (hr : okX r) {W : AV} {l : List (List UInt8)} (hW : WW W l) (hl : okW 9 l) {v0 v2 v7 v8 v9 v10 v11 v12 v13 v14 v15 v16 v17 v18 v19 v20 v21 v22 v23 v24 v25 v26 v27 v28 v29 v30 v31 v32 v33 v34 v35 v36 v37 v38 v39 v40 v41 v42 : AV} :
    ∃ σ', den T rtx_6 [v0, .box 0 0, v2, W, undefA, undefA, undefA, v7, v8, v9, v10, v11, v12, v13, v14, v15, v16, v17, v18, v19, v20, v21, v22, v23, v24, v25, v26, v27, v28, v29, v30, v31, v32, v33, v34, v35, v36, v37, v38, v39, v40, v41, v42, undefA, undefA, undefA, undefA, undefA, undefA, undefA, undefA, undefA, undefA, undefA, undefA, undefA, undefA, undefA, undefA, undefA, undefA, undefA, undefA, undefA, undefA, undefA, undefA, undefA, undefA, undefA, undefA, undefA, undefA, undefA, undefA, undefA, undefA, undefA, undefA, undefA, undefA, undefA, undefA, undefA, undefA, undefA, undefA] [.cells (encR r)] = some (.ret, σ', .cells (encR r) :: r.kids.map bxK) ∧ σ'.getD 2 undefA = .str ⟨(Lib.join (l ++ (labW r ++ (kidW r))) [32]).toArray⟩ := by
  have hs := hW.sh
  have ha := hW.app
  have t := ltx_run hr.ents hr.label
  have hw := labT_len hr
  unfold labW
  by_cases h0 : r.label = []
  · rw [if_pos h0, List.nil_append]
    have ih := @rt7 r hr W l hW (hl.mono (by decide : 9 ≤ 10))
    generalize Lib.join (l ++ (kidW r)) [32] = J at ih ⊢
    have hd := (show decide ((r.label.length : Int) > 0) = false by rw [h0]; rfl)
    unfold rtx_6
    simp only [encR] at ih ⊢
    simp (maxSteps := 4000000) -implicitDefEqProofs (disch := (refine id_ok ?_; first | assumption | omega | (simp only [go_sem, List.size_toArray, List.length_map, List.length_append, List.length_take, List.length_drop, List.length_cons, List.length_nil, mrLL_app, keyD_i, keyD_s, keyD_b, Nat.reduceAdd, Nat.reduceEqDiff, Nat.reduceLeDiff] <;> omega) | with_unfolding_all rfl | decide)) only [go_sem, Nat.reduceAdd, Nat.reduceSub, Nat.reduceMul, Nat.reduceLeDiff, Nat.reduceEqDiff, Nat.reduceBEq, reduceIte, reduceCtorEq, encR, List.length_map, hs, hd]
    exact ih
  · rw [if_neg h0, wc6]
    have hl2 := hl.snoc (x := labT r.label) hw
    have ih := @rt7 r hr _ _ (WW.ow' hl2 (by decide)) hl2
    generalize Lib.join ((l ++ [labT r.label]) ++ (kidW r)) [32] = J at ih ⊢
    have hd := len_pos h0
    unfold rtx_6
    simp only [encR] at ih ⊢
    simp (maxSteps := 4000000) -implicitDefEqProofs (disch := (refine id_ok ?_; first | assumption | omega | (simp only [go_sem, List.size_toArray, List.length_map, List.length_append, List.length_take, List.length_drop, List.length_cons, List.length_nil, mrLL_app, keyD_i, keyD_s, keyD_b, Nat.reduceAdd, Nat.reduceEqDiff, Nat.reduceLeDiff] <;> omega) | with_unfolding_all rfl | decide)) only [go_sem, Nat.reduceAdd, Nat.reduceSub, Nat.reduceMul, Nat.reduceLeDiff, Nat.reduceEqDiff, Nat.reduceBEq, reduceIte, reduceCtorEq, encR, List.length_map, hs, ha, hd, t]
    exact ih
theorem wc5 {l K : List (List UInt8)} {x : List UInt8} : l ++ ([x] ++ K) = (l ++ [x]) ++ K := by simp
set_option maxHeartbeats 16000000 in
theorem rt5 {r : Rep} (hr : okX r) {W : AV} {l : List (List UInt8)} (hW : WW W l) (hl : okW 8 l) {v0 v2 v7 v8 v9 v10 v11 v12 v13 v14 v15 v16 v17 v18 v19 v20 v21 v22 v23 v24 v25 v26 v27 v28 v29 v30 v31 v32 v33 v34 : AV} :
    ∃ σ', den T rtx_5 [v0, .box 0 0, v2, W, undefA, undefA, undefA, v7, v8, v9, v10, v11, v12, v13, v14, v15, v16, v17, v18, v19, v20, v21, v22, v23, v24, v25, v26, v27, v28, v29, v30, v31, v32, v33, v34, undefA, undefA, undefA, undefA, undefA, undefA, undefA, undefA, undefA, undefA, undefA, undefA, undefA, undefA, undefA, undefA, undefA, undefA, undefA, undefA, undefA, undefA, undefA, undefA, undefA, undefA, undefA, undefA, undefA, undefA, undefA, undefA, undefA, undefA, undefA, undefA, undefA, undefA, undefA, undefA, undefA, undefA, undefA, undefA, undefA, undefA, undefA, undefA, undefA, undefA, undefA, undefA] [.cells (encR r)] = some (.ret, σ', .cells (encR r) :: r.kids.map bxK) ∧ σ'.getD 2 undefA = .str ⟨(Lib.join (l ++ (catW r ++ (labW r ++ kidW r))) [32]).toArray⟩ := by
  have hs := hW.sh
  have ha := hW.app
  have hw : r.cat.length ≤ 2000000000 := Nat.le_trans hr.cat (by decide)
  unfold catW
  by_cases h0 : r.cat = []
  · rw [if_pos h0, List.nil_append]
    have ih := @rt6 r hr W l hW (hl.mono (by decide : 8 ≤ 9))
    generalize Lib.join (l ++ (labW r ++ kidW r)) [32] = J at ih ⊢
    have hd := (show (r.cat == []) = true by rw [h0]; rfl)
    unfold rtx_5
    simp only [encR] at ih ⊢
    simp (maxSteps := 4000000) -implicitDefEqProofs (disch := (refine id_ok ?_; first | assumption | omega | (simp only [go_sem, List.size_toArray, List.length_map, List.length_append, List.length_take, List.length_drop, List.length_cons, List.length_nil, mrLL_app, keyD_i, keyD_s, keyD_b, Nat.reduceAdd, Nat.reduceEqDiff, Nat.reduceLeDiff] <;> omega) | with_unfolding_all rfl | decide)) only [go_sem, Nat.reduceAdd, Nat.reduceSub, Nat.reduceMul, Nat.reduceLeDiff, Nat.reduceEqDiff, Nat.reduceBEq, reduceIte, reduceCtorEq, encR, List.length_map, hs, hd]
    exact ih
  · rw [if_neg h0, wc5]
    have hl2 := hl.snoc (x := r.cat) hw
    have ih := @rt6 r hr _ _ (WW.ow' hl2 (by decide)) hl2
    generalize Lib.join ((l ++ [r.cat]) ++ (labW r ++ kidW r)) [32] = J at ih ⊢
    have hd := (show (r.cat == []) = false by simpa using h0)
    unfold rtx_5
    simp only [encR] at ih ⊢
    simp (maxSteps := 4000000) -implicitDefEqProofs (disch := (refine id_ok ?_; first | assumption | omega | (simp only [go_sem, List.size_toArray, List.length_map, List.length_append, List.length_take, List.length_drop, List.length_cons, List.length_nil, mrLL_app, keyD_i, keyD_s, keyD_b, Nat.reduceAdd, Nat.reduceEqDiff, Nat.reduceLeDiff] <;> omega) | with_unfolding_all rfl | decide)) only [go_sem, Nat.reduceAdd, Nat.reduceSub, Nat.reduceMul, Nat.reduceLeDiff, Nat.reduceEqDiff, Nat.reduceBEq, reduceIte, reduceCtorEq, encR, List.length_map, hs, ha, hd]
    exact ih
theorem wc4 {l K : List (List UInt8)} {x : List UInt8} : l ++ ([x] ++ K) = (l ++ [x]) ++ K := by simp
set_option maxHeartbeats 16000000 in
theorem rt4 {r : Rep} (hr : okX r) {W : AV} {l : List (List UInt8)} (hW : WW W l) (hl : okW 7 l) {v0 v2 v7 v8 v9 v10 v11 v12 v13 v14 v15 v16 v17 v18 v19 v20 v21 v22 v23 v24 : AV} :
    ∃ σ', den T rtx_4 [v0, .box 0 0, v2, W, undefA, undefA, undefA, v7, v8, v9, v10, v11, v12, v13, v14, v15, v16, v17, v18, v19, v20, v21, v22, v23, v24, undefA, undefA, undefA, undefA, undefA, undefA, undefA, undefA, undefA, undefA, undefA, undefA, undefA, undefA, undefA, undefA, undefA, undefA, undefA, undefA, undefA, undefA, undefA, undefA, undefA, undefA, undefA, undefA, undefA, undefA, undefA, undefA, undefA, undefA, undefA, undefA, undefA, undefA, undefA, undefA, undefA, undefA, undefA, undefA, undefA, undefA, undefA, undefA, undefA, undefA, undefA, undefA, undefA, undefA, undefA, undefA, undefA, undefA, undefA, undefA, undefA, undefA] [.cells (encR r)] = some (.ret, σ', .cells (encR r) :: r.kids.map bxK) ∧ σ'.getD 2 undefA = .str ⟨(Lib.join (l ++ (texW r ++ (catW r ++ (labW r ++ kidW r)))) [32]).toArray⟩ := by
  have hs := hW.sh
  have ha := hW.app
  have t := dig_run (l := r.text) (Nat.le_trans hr.text (by decide))
  have hw : (hexL r.text).length ≤ 2000000000 := by have := hr.text; rw [hexL_len]; omega
  unfold texW
  by_cases h0 : r.text = []
  · rw [if_pos h0, List.nil_append]
    have ih := @rt5 r hr W l hW (hl.mono (by decide : 7 ≤ 8))
    generalize Lib.join (l ++ (catW r ++ (labW r ++ kidW r))) [32] = J at ih ⊢
    have hd := (show decide ((r.text.length : Int) > 0) = false by rw [h0]; rfl)
    unfold rtx_4
    simp only [encR] at ih ⊢
    simp (maxSteps := 4000000) -implicitDefEqProofs (disch := (refine id_ok ?_; first | assumption | omega | (simp only [go_sem, List.size_toArray, List.length_map, List.length_append, List.length_take, List.length_drop, List.length_cons, List.length_nil, mrLL_app, keyD_i, keyD_s, keyD_b, Nat.reduceAdd, Nat.reduceEqDiff, Nat.reduceLeDiff] <;> omega) | with_unfolding_all rfl | decide)) only [go_sem, Nat.reduceAdd, Nat.reduceSub, Nat.reduceMul, Nat.reduceLeDiff, Nat.reduceEqDiff, Nat.reduceBEq, reduceIte, reduceCtorEq, encR, List.length_map, hs, hd]
    exact ih
  · rw [if_neg h0, wc4]
    have hl2 := hl.snoc (x := hexL r.text) hw
    have ih := @rt5 r hr _ _ (WW.ow' hl2 (by decide)) hl2
    generalize Lib.join ((l ++ [hexL r.text]) ++ (catW r ++ (labW r ++ kidW r))) [32] = J at ih ⊢
    have hd := len_pos h0
    unfold rtx_4
    simp only [encR] at ih ⊢
    simp (maxSteps := 4000000) -implicitDefEqProofs (disch := (refine id_ok ?_; first | assumption | omega | (simp only [go_sem, List.size_toArray, List.length_map, List.length_append, List.length_take, List.length_drop, List.length_cons, List.length_nil, mrLL_app, keyD_i, keyD_s, keyD_b, Nat.reduceAdd, Nat.reduceEqDiff, Nat.reduceLeDiff] <;> omega) | with_unfolding_all rfl | decide)) only [go_sem, Nat.reduceAdd, Nat.reduceSub, Nat.reduceMul, Nat.reduceLeDiff, Nat.reduceEqDiff, Nat.reduceBEq, reduceIte, reduceCtorEq, encR, List.length_map, hs, ha, hd, t]
    exact ih
theorem wc3 {l K : List (List UInt8)} {x : List UInt8} : l ++ ([x] ++ K) = (l ++ [x]) ++ K := by simp
set_option maxHeartbeats 16000000 in
theorem rt3 {r : Rep} (hr : okX r) {W : AV} {l : List (List UInt8)} (hW : WW W l) (hl : okW 6 l) {v0 v2 v7 v8 v9 v10 v11 v12 v13 v14 v15 : AV} :
    ∃ σ', den T rtx_3 [v0, .box 0 0, v2, W, undefA, undefA, undefA, v7, v8, v9, v10, v11, v12, v13, v14, v15, undefA, undefA, undefA, undefA, undefA, undefA, undefA, undefA, undefA, undefA, undefA, undefA, undefA, undefA, undefA, undefA, undefA, undefA, undefA, undefA, undefA, undefA, undefA, undefA, undefA, undefA, undefA, undefA, undefA, undefA, undefA, undefA, undefA, undefA, undefA, undefA, undefA, undefA, undefA, undefA, undefA, undefA, undefA, undefA, undefA, undefA, undefA, undefA, undefA, undefA, undefA, undefA, undefA, undefA, undefA, undefA, undefA, undefA, undefA, undefA, undefA, undefA, undefA, undefA, undefA, undefA, undefA, undefA, undefA, undefA, undefA] [.cells (encR r)] = some (.ret, σ', .cells (encR r) :: r.kids.map bxK) ∧ σ'.getD 2 undefA = .str ⟨(Lib.join (l ++ (numW r ++ (texW r ++ (catW r ++ (labW r ++ kidW r))))) [32]).toArray⟩ := by
  have hs := hW.sh
  have ha := hW.app
  have t := itoa_run (h := []) hr.n.1 hr.n.2
  have hw : (Lib.itoa r.n).length ≤ 2000000000 := Nat.le_trans (itoa_len hr.n.1 hr.n.2) (by decide)
  unfold numW
  by_cases h0 : r.n = 0
  · rw [if_pos h0, List.nil_append]
    have ih := @rt4 r hr W l hW (hl.mono (by decide : 6 ≤ 7))
    generalize Lib.join (l ++ (texW r ++ (catW r ++ (labW r ++ kidW r)))) [32] = J at ih ⊢
    have hd := (show (r.n != 0) = false by rw [h0]; rfl)
    unfold rtx_3
    simp only [encR] at ih ⊢
    simp (maxSteps := 4000000) -implicitDefEqProofs (disch := (refine id_ok ?_; first | assumption | omega | (simp only [go_sem, List.size_toArray, List.length_map, List.length_append, List.length_take, List.length_drop, List.length_cons, List.length_nil, mrLL_app, keyD_i, keyD_s, keyD_b, Nat.reduceAdd, Nat.reduceEqDiff, Nat.reduceLeDiff] <;> omega) | with_unfolding_all rfl | decide)) only [go_sem, Nat.reduceAdd, Nat.reduceSub, Nat.reduceMul, Nat.reduceLeDiff, Nat.reduceEqDiff, Nat.reduceBEq, reduceIte, reduceCtorEq, encR, List.length_map, hs, hd]
    exact ih
  · rw [if_neg h0, wc3]
    have hl2 := hl.snoc (x := Lib.itoa r.n) hw
    have ih := @rt4 r hr _ _ (WW.ow' hl2 (by decide)) hl2
    generalize Lib.join ((l ++ [Lib.itoa r.n]) ++ (texW r ++ (catW r ++ (labW r ++ kidW r)))) [32] = J at ih ⊢
    have hd := (show (r.n != 0) = true by simpa using h0)
    unfold rtx_3
    simp only [encR] at ih ⊢
    simp (maxSteps := 4000000) -implicitDefEqProofs (disch := (refine id_ok ?_; first | assumption | omega | (simp only [go_sem, List.size_toArray, List.length_map, List.length_append, List.length_take, List.length_drop, List.length_cons, List.length_nil, mrLL_app, keyD_i, keyD_s, keyD_b, Nat.reduceAdd, Nat.reduceEqDiff, Nat.reduceLeDiff] <;> omega) | with_unfolding_all rfl | decide)) only [go_sem, Nat.reduceAdd, Nat.reduceSub, Nat.reduceMul, Nat.reduceLeDiff, Nat.reduceEqDiff, Nat.reduceBEq, reduceIte, reduceCtorEq, encR, List.length_map, hs, ha, hd, t]
    exact ih
set_option maxHeartbeats 16000000 in
theorem rt2 {r : Rep} (hr : okX r) {v0 v2 v7 : AV} :
    ∃ σ', den T rtx_2 [v0, .box 0 0, v2, .sl .ex [[.str ⟨#[111, 107]⟩]], undefA, undefA, undefA, v7, undefA, undefA, undefA, undefA, undefA, undefA, undefA, undefA, undefA, undefA, undefA, undefA, undefA, undefA, undefA, undefA, undefA, undefA, undefA, undefA, undefA, undefA, undefA, undefA, undefA, undefA, undefA, undefA, undefA, undefA, undefA, undefA, undefA, undefA, undefA, undefA, undefA, undefA, undefA, undefA, undefA, undefA, undefA, undefA, undefA, undefA, undefA, undefA, undefA, undefA, undefA, undefA, undefA, undefA, undefA, undefA, undefA, undefA, undefA, undefA, undefA, undefA, undefA, undefA, undefA, undefA, undefA, undefA, undefA, undefA, undefA, undefA, undefA, undefA, undefA, undefA, undefA, undefA, undefA] [.cells (encR r)] = some (.ret, σ', .cells (encR r) :: r.kids.map bxK) ∧ σ'.getD 2 undefA = .str ⟨(Lib.join ([hdW r] ++ (numW r ++ (texW r ++ (catW r ++ (labW r ++ kidW r))))) [32]).toArray⟩ := by
  have t := itoa_run (h := []) hr.e.1 hr.e.2
  have hil := itoa_len hr.e.1 hr.e.2
  unfold hdW
  by_cases h0 : r.e = 0
  · rw [if_pos h0]
    have ih := @rt3 r hr _ _ (WW.one (x := [111, 107])) ⟨by decide, fun x hx => by rw [List.mem_singleton.1 hx]; decide⟩
    generalize Lib.join ([[111, 107]] ++ (numW r ++ (texW r ++ (catW r ++ (labW r ++ kidW r))))) [32] = J at ih ⊢
    have hd : (r.e != 0) = false := by rw [h0]; rfl
    unfold rtx_2
    simp only [encR] at ih ⊢
    simp (maxSteps := 4000000) -implicitDefEqProofs (disch := (refine id_ok ?_; first | assumption | omega | (simp only [go_sem, List.size_toArray, List.length_map, List.length_append, List.length_take, List.length_drop, List.length_cons, List.length_nil, mrLL_app, keyD_i, keyD_s, keyD_b, Nat.reduceAdd, Nat.reduceEqDiff, Nat.reduceLeDiff] <;> omega) | with_unfolding_all rfl | decide)) only [go_sem, Nat.reduceAdd, Nat.reduceSub, Nat.reduceMul, Nat.reduceLeDiff, Nat.reduceEqDiff, Nat.reduceBEq, reduceIte, reduceCtorEq, encR, hd]
    exact ih
  · rw [if_neg h0]
    have ih := @rt3 r hr _ _ (WW.one (x := [101, 114, 114, 111, 114, 32] ++ Lib.itoa r.e)) ⟨by simp, fun x hx => by rw [List.mem_singleton.1 hx]; simp; omega⟩
    generalize Lib.join ([[101, 114, 114, 111, 114, 32] ++ Lib.itoa r.e] ++ (numW r ++ (texW r ++ (catW r ++ (labW r ++ kidW r))))) [32] = J at ih ⊢
    have hd : (r.e != 0) = true := by simpa using h0
    unfold rtx_2
    simp only [encR] at ih ⊢
    simp (maxSteps := 4000000) -implicitDefEqProofs (disch := (refine id_ok ?_; first | assumption | omega | (simp only [go_sem, List.size_toArray, List.length_map, List.length_append, List.length_take, List.length_drop, List.length_cons, List.length_nil, mrLL_app, keyD_i, keyD_s, keyD_b, Nat.reduceAdd, Nat.reduceEqDiff, Nat.reduceLeDiff] <;> omega) | with_unfolding_all rfl | decide)) only [go_sem, Nat.reduceAdd, Nat.reduceSub, Nat.reduceMul, Nat.reduceLeDiff, Nat.reduceEqDiff, Nat.reduceBEq, reduceIte, reduceCtorEq, encR, hd, t]
    exact ih
/-- The text of a reply. -/
def telR (r : Rep) : List UInt8 := Lib.join ([hdW r] ++ (numW r ++ (texW r ++ (catW r ++ (labW r ++ kidW r))))) [32]
set_option maxHeartbeats 16000000 in
theorem tel_run {r : Rep} (hr : okX r) : run T 27 [.agg (encR r)] [] = some (.str ⟨(telR r).toArray⟩, []) := by
  obtain ⟨σ', h1, h2⟩ := @rt2 r hr (.agg (encR r)) (.str ⟨#[]⟩) (.sl .sh [[.str ⟨#[111, 107]⟩]])
  rw [run_code T_27, rtx_eq]
  unfold telR
  generalize Lib.join ([hdW r] ++ (numW r ++ (texW r ++ (catW r ++ (labW r ++ kidW r))))) [32] = J at h2 ⊢
  simp only [encR] at h1 ⊢
  simp (maxSteps := 4000000) -implicitDefEqProofs (disch := (refine id_ok ?_; first | assumption | omega | (simp only [go_sem, List.size_toArray, List.length_map, List.length_append, List.length_take, List.length_drop, List.length_cons, List.length_nil, mrLL_app, keyD_i, keyD_s, keyD_b, Nat.reduceAdd, Nat.reduceEqDiff, Nat.reduceLeDiff] <;> omega) | with_unfolding_all rfl | decide)) only [go_sem, Nat.reduceAdd, Nat.reduceSub, Nat.reduceMul, Nat.reduceLeDiff, Nat.reduceEqDiff, Nat.reduceBEq, reduceIte, reduceCtorEq, rtx_0, rtx_1, encR, h1, h2]
end Go.Proofs.YtjeigcnaalleiaaGreatDoor.L

/- The text of a reply, the document's way; both are the same. -/
set_option linter.all false
set_option maxRecDepth 100000
namespace Go.Proofs.YtjeigcnaalleiaaGreatDoor.L
open Go.Proofs.YtjeigcnaalleiaaGreatDoor.M Go.Proofs.YtjeigcnaalleiaaGreatDoor.F Go.Proofs

theorem hx_slc {d : Nat} (h : d < 16) : sliceV none (.str ⟨#[48, 49, 50, 51, 52, 53, 54, 55, 56, 57, 97, 98, 99, 100, 101, 102]⟩) (some (some (d : Int))) (some (some ((d + 1 : Nat) : Int))) (some none) = some (.str ⟨[hx d].toArray⟩) := by
  match d, h with
  | 0, _ => rfl
  | 1, _ => rfl
  | 2, _ => rfl
  | 3, _ => rfl
  | 4, _ => rfl
  | 5, _ => rfl
  | 6, _ => rfl
  | 7, _ => rfl
  | 8, _ => rfl
  | 9, _ => rfl
  | 10, _ => rfl
  | 11, _ => rfl
  | 12, _ => rfl
  | 13, _ => rfl
  | 14, _ => rfl
  | 15, _ => rfl
  | d + 16, h => omega
theorem u8_quo (c : UInt8) : IntKind.u8.wrap ((c.toNat : Int).tdiv 16) = ((c.toNat / 16 : Nat) : Int) := by
  have := c.toNat_lt
  rw [Int.tdiv_eq_ediv_of_nonneg (by omega), w8]; omega
theorem u8_rem (c : UInt8) : (c.toNat : Int).tmod 16 = ((c.toNat % 16 : Nat) : Int) := by
  rw [Int.tmod_eq_emod_of_nonneg (by omega)]; rfl
theorem u8_inc {d : Nat} (h : d < 16) : IntKind.u8.wrap ((d : Int) + 1) = ((d + 1 : Nat) : Int) := by rw [w8]; omega
set_option maxHeartbeats 4000000 in
theorem fhx_loop {l : List UInt8} {h : AH} {v1 : AV} (hll : l.length ≤ 100000) : ∀ (d i : Nat) (b : List UInt8), d + i = l.length → b.length ≤ 1000000 + 2 * i →
    den T (.loop l_regencyref12_Text_0) (s_regencyref12_Text_0 v1 (.str ⟨b.toArray⟩) (.sl .sh (l.map encB)) (.int .i64 l.length) (.int .i64 i)) h = some (.exit 0, x_regencyref12_Text_0 v1 (.str ⟨(b ++ hexL (l.drop i)).toArray⟩), h) := by
  intro d
  induction d with
  | zero =>
    intro i b hd hb
    have hd' : decide ((i : Int) < l.length) = false := decide_eq_false (by omega)
    rw [List.drop_eq_nil_of_le (by omega), hexL, List.flatMap_nil, List.append_nil]
    rw [lp_round]
    simp -implicitDefEqProofs (disch := (refine id_ok ?_; first | assumption | omega | (simp only [go_sem, List.size_toArray, List.length_map, List.length_append, List.length_take, List.length_drop, List.length_cons, List.length_nil, mrLL_app, keyD_i, keyD_s, keyD_b, Nat.reduceAdd, Nat.reduceEqDiff, Nat.reduceLeDiff] <;> omega) | with_unfolding_all rfl | decide)) only [go_sem, Nat.reduceAdd, Nat.reduceSub, Nat.reduceMul, Nat.reduceLeDiff, Nat.reduceEqDiff, Nat.reduceBEq, reduceIte, reduceCtorEq, hd']
  | succ d ih =>
    intro i b hd hb
    have hib : i < l.length := by omega
    have hd' : decide ((i : Int) < l.length) = true := decide_eq_true (by omega)
    have hge : (l.map encB)[(i : Int).toNat]? = some (encB l[i]) := by simp [hib]
    have hdr : l.drop i = l[i] :: l.drop (i + 1) := List.drop_eq_getElem_cons hib
    rw [hdr]
    generalize l[i] = c at *
    have hc := c.toNat_lt
    have e1 := u8_quo c
    have e2 := u8_rem c
    have s1 := hx_slc (d := c.toNat / 16) (by omega)
    have s2 := hx_slc (d := c.toNat % 16) (by omega)
    have i1 := u8_inc (d := c.toNat / 16) (by omega)
    have i2 := u8_inc (d := c.toNat % 16) (by omega)
    have e7 := incN (n := i) (by omega)
    have ih' := ih (i + 1) (b ++ [hx (c.toNat / 16), hx (c.toNat % 16)]) (by omega) (by simp; omega)
    simp only [hexL, List.flatMap_cons, List.append_assoc, List.cons_append, List.nil_append] at ih' ⊢
    simp only [encB] at hge
    rw [lp_round]
    simp (maxSteps := 2000000) -implicitDefEqProofs (disch := (refine id_ok ?_; first | assumption | omega | (simp only [go_sem, List.size_toArray, List.length_map, List.length_append, List.length_take, List.length_drop, List.length_cons, List.length_nil, mrLL_app, keyD_i, keyD_s, keyD_b, Nat.reduceAdd, Nat.reduceEqDiff, Nat.reduceLeDiff] <;> omega) | with_unfolding_all rfl | decide)) only [go_sem, Nat.reduceAdd, Nat.reduceSub, Nat.reduceMul, Nat.reduceLeDiff, Nat.reduceEqDiff, Nat.reduceBEq, reduceIte, reduceCtorEq, hd', hge, e1, e2, s1, s2, i1, i2, e7, List.append_assoc, List.cons_append, List.nil_append]
    exact ih'
/-- Kids from the i-th on. -/
def kidF : Bool → List Kd → List UInt8
  | _, [] => []
  | b, k :: r => (if b then 44 else 32) :: (kidT k ++ kidF true r)
set_option maxHeartbeats 8000000 in
theorem fkd_loop {l : List Kd} (hl : ∀ k ∈ l, okK k) (hll : l.length ≤ 1000) : ∀ (d i : Nat) (js : AH) (b : List UInt8), d + i = l.length → b.length ≤ 10000000000 + 71 * i →
    den T (.loop l_regencyref12_Text_1) (s_regencyref12_Text_1 (.str ⟨b.toArray⟩) (.sl .sh (l.map encK)) (.int .i64 l.length) (.int .i64 i)) js = some (.exit 2, x_regencyref12_Text_2 (.str ⟨(b ++ kidF (decide (0 < i)) (l.drop i)).toArray⟩), js ++ (l.drop i).map bxK) := by
  intro d
  induction d with
  | zero =>
    intro i js b hd hb
    have hd' : decide ((i : Int) < l.length) = false := decide_eq_false (by omega)
    rw [List.drop_eq_nil_of_le (by omega), kidF, List.append_nil, List.map_nil, List.append_nil]
    rw [lp_round]
    simp -implicitDefEqProofs (disch := (refine id_ok ?_; first | assumption | omega | (simp only [go_sem, List.size_toArray, List.length_map, List.length_append, List.length_take, List.length_drop, List.length_cons, List.length_nil, mrLL_app, keyD_i, keyD_s, keyD_b, Nat.reduceAdd, Nat.reduceEqDiff, Nat.reduceLeDiff] <;> omega) | with_unfolding_all rfl | decide)) only [go_sem, Nat.reduceAdd, Nat.reduceSub, Nat.reduceMul, Nat.reduceLeDiff, Nat.reduceEqDiff, Nat.reduceBEq, reduceIte, reduceCtorEq, hd']
  | succ d ih =>
    intro i js b hd hb
    have hib : i < l.length := by omega
    have hd' : decide ((i : Int) < l.length) = true := decide_eq_true (by omega)
    have hge : (l.map encK)[(i : Int).toNat]? = some (encK l[i]) := by simp [hib]
    have hdr : l.drop i = l[i] :: l.drop (i + 1) := List.drop_eq_getElem_cons hib
    have hcl := hl l[i] (by simp)
    rw [hdr]
    generalize l[i] = e at *
    have hkl := kidT_len hcl
    obtain ⟨a, b', c⟩ := e
    obtain ⟨ha, hb', hc⟩ := hcl
    simp only at ha hb' hc
    have h1 := itoa_len ha.1 ha.2
    have h2 := itoa_len hb'.1 hb'.2
    have h3 := itoa_len hc.1 hc.2
    have t1 := numI_run (h := []) ha.1 ha.2
    have t2 := numI_run (h := []) hb'.1 hb'.2
    have t3 := numI_run (h := []) hc.1 hc.2
    have e7 := incN (n := i) (by omega)
    have ih' := fun x hx => ih (i + 1) (js ++ [bxK (a, b', c)]) x (by omega) hx
    rw [show decide (0 < i + 1) = true from decide_eq_true (by omega)] at ih'
    by_cases h0 : i = 0
    · subst h0
      have ih2 := ih' (b ++ 32 :: kidT (a, b', c)) (by simp only [List.length_append, List.length_cons]; omega)
      simp only [kidF, kidT, List.map_cons, List.append_assoc, List.singleton_append, List.cons_append, List.nil_append, show decide (0 < 0) = false from rfl, Bool.false_eq_true, if_false] at ih2 ⊢
      simp only [bxK, encK] at ih2 ⊢
      rw [lp_round]
      simp (maxSteps := 2000000) -implicitDefEqProofs (disch := (refine id_ok ?_; first | assumption | omega | (simp only [go_sem, List.size_toArray, List.length_map, List.length_append, List.length_take, List.length_drop, List.length_cons, List.length_nil, mrLL_app, keyD_i, keyD_s, keyD_b, Nat.reduceAdd, Nat.reduceEqDiff, Nat.reduceLeDiff] <;> omega) | with_unfolding_all rfl | decide)) only [go_sem, Nat.reduceAdd, Nat.reduceSub, Nat.reduceMul, Nat.reduceLeDiff, Nat.reduceEqDiff, Nat.reduceBEq, reduceIte, reduceCtorEq, hd', hge, encK, app_get0, app_set0, t1, t2, t3, e7, show (((0 : Nat) : Int) == 0) = true from rfl, List.append_assoc, List.cons_append, List.nil_append]
      exact ih2
    · have h0' : decide (0 < i) = true := decide_eq_true (by omega)
      have hgt : ((i : Int) == 0) = false := by simp; omega
      have ih2 := ih' (b ++ 44 :: kidT (a, b', c)) (by simp only [List.length_append, List.length_cons]; omega)
      simp only [kidF, kidT, h0', List.map_cons, List.append_assoc, List.singleton_append, List.cons_append, List.nil_append, if_true] at ih2 ⊢
      simp only [bxK, encK] at ih2 ⊢
      rw [lp_round]
      simp (maxSteps := 2000000) -implicitDefEqProofs (disch := (refine id_ok ?_; first | assumption | omega | (simp only [go_sem, List.size_toArray, List.length_map, List.length_append, List.length_take, List.length_drop, List.length_cons, List.length_nil, mrLL_app, keyD_i, keyD_s, keyD_b, Nat.reduceAdd, Nat.reduceEqDiff, Nat.reduceLeDiff] <;> omega) | with_unfolding_all rfl | decide)) only [go_sem, Nat.reduceAdd, Nat.reduceSub, Nat.reduceMul, Nat.reduceLeDiff, Nat.reduceEqDiff, Nat.reduceBEq, reduceIte, reduceCtorEq, hd', hge, encK, app_get0, app_set0, t1, t2, t3, e7, hgt, List.append_assoc, List.cons_append, List.nil_append]
      exact ih2
def fN (r : Rep) : List UInt8 := if r.n = 0 then [] else 32 :: Lib.itoa r.n
def fS (r : Rep) : List UInt8 := if r.text = [] then [] else [32]
def fC (r : Rep) : List UInt8 := if r.cat = [] then [] else 32 :: r.cat
def fL (r : Rep) : List UInt8 := if r.label = [] then [] else 32 :: labT r.label
def ftx_10 : CC := .ret
def ftx_9 : CC := .seq (.region [⟨some 101, .mov (.tmp 3), none⟩, ⟨some 2, .mov (.tmp 101), none⟩]) ftx_10
def ftx_8 : CC := .seq (.seq (.region [⟨some 71, .faddr 5 (.tmp 1), none⟩, ⟨some 72, .load none (.tmp 71), none⟩, ⟨some 73, .lenl (.tmp 72), none⟩, ⟨some 74, .mov (.con (.int .i64 0)), none⟩]) (.block 2 (.kill [1, 6, 7, 53, 54, 55, 56, 57, 58, 59, 60, 61, 62, 63, 64, 65, 66, 67, 68, 69, 70, 71, 75, 76, 77, 78, 79, 80, 81, 82, 83, 84, 85, 86, 87, 88, 89, 90, 91, 92, 93, 94, 95, 96, 97, 98, 99, 100] (.loop l_regencyref12_Text_1)))) ftx_9
def ftx_7 : CC := .seq (.seq (.region [⟨some 61, .faddr 4 (.tmp 1), none⟩, ⟨some 62, .load none (.tmp 61), none⟩, ⟨some 63, .lenl (.tmp 62), none⟩, ⟨some 64, .bin .gtr (.tmp 63) (.con (.int .i64 0)), none⟩]) (.cond (.tmp 64) (.region [⟨some 65, .mov (.tmp 3), none⟩, ⟨some 66, .faddr 4 (.tmp 1), none⟩, ⟨some 67, .load none (.tmp 66), none⟩, ⟨some 68, .pcall 63 [(.tmp 67)], none⟩, ⟨some 69, .bin .add (.con (.str ⟨#[32]⟩)) (.tmp 68), none⟩, ⟨some 70, .bin .add (.tmp 65) (.tmp 69), none⟩, ⟨some 3, .mov (.tmp 70), none⟩]) (.skip))) ftx_8
def ftx_6 : CC := .seq (.seq (.region [⟨some 53, .faddr 3 (.tmp 1), none⟩, ⟨some 54, .load none (.tmp 53), none⟩, ⟨some 55, .bin .neq (.tmp 54) (.con (.str ⟨#[]⟩)), none⟩]) (.cond (.tmp 55) (.region [⟨some 56, .mov (.tmp 3), none⟩, ⟨some 57, .faddr 3 (.tmp 1), none⟩, ⟨some 58, .load none (.tmp 57), none⟩, ⟨some 59, .bin .add (.con (.str ⟨#[32]⟩)) (.tmp 58), none⟩, ⟨some 60, .bin .add (.tmp 56) (.tmp 59), none⟩, ⟨some 3, .mov (.tmp 60), none⟩]) (.skip))) ftx_7
def ftx_5 : CC := .seq (.seq (.region [⟨some 30, .faddr 2 (.tmp 1), none⟩, ⟨some 31, .load none (.tmp 30), none⟩, ⟨some 32, .lenl (.tmp 31), none⟩, ⟨some 33, .mov (.con (.int .i64 0)), none⟩]) (.block 0 (.kill [0, 2, 5, 8, 9, 10, 11, 12, 13, 14, 15, 16, 17, 18, 19, 20, 21, 22, 23, 24, 25, 26, 27, 28, 29, 30, 34, 35, 36, 37, 38, 39, 40, 41, 42, 43, 44, 45, 46, 47, 48, 49, 50, 51, 52] (.loop l_regencyref12_Text_0)))) ftx_6
def ftx_4 : CC := .seq (.seq (.region [⟨some 24, .faddr 2 (.tmp 1), none⟩, ⟨some 25, .load none (.tmp 24), none⟩, ⟨some 26, .lenl (.tmp 25), none⟩, ⟨some 27, .bin .gtr (.tmp 26) (.con (.int .i64 0)), none⟩]) (.cond (.tmp 27) (.region [⟨some 28, .mov (.tmp 3), none⟩, ⟨some 29, .bin .add (.tmp 28) (.con (.str ⟨#[32]⟩)), none⟩, ⟨some 3, .mov (.tmp 29), none⟩]) (.skip))) ftx_5
def ftx_3 : CC := .seq (.seq (.region [⟨some 15, .faddr 1 (.tmp 1), none⟩, ⟨some 16, .load none (.tmp 15), none⟩, ⟨some 17, .bin .neq (.tmp 16) (.con (.int .i64 0)), none⟩]) (.cond (.tmp 17) (.region [⟨some 18, .mov (.tmp 3), none⟩, ⟨some 19, .faddr 1 (.tmp 1), none⟩, ⟨some 20, .load none (.tmp 19), none⟩, ⟨some 21, .pcall 62 [(.tmp 20)], none⟩, ⟨some 22, .bin .add (.con (.str ⟨#[32]⟩)) (.tmp 21), none⟩, ⟨some 23, .bin .add (.tmp 18) (.tmp 22), none⟩, ⟨some 3, .mov (.tmp 23), none⟩]) (.skip))) ftx_4
def ftx_2 : CC := .seq (.seq (.region [⟨some 8, .faddr 0 (.tmp 1), none⟩, ⟨some 9, .load none (.tmp 8), none⟩, ⟨some 10, .bin .neq (.tmp 9) (.con (.int .i64 0)), none⟩]) (.cond (.tmp 10) (.region [⟨some 11, .faddr 0 (.tmp 1), none⟩, ⟨some 12, .load none (.tmp 11), none⟩, ⟨some 13, .pcall 62 [(.tmp 12)], none⟩, ⟨some 14, .bin .add (.con (.str ⟨#[101, 114, 114, 111, 114, 32]⟩)) (.tmp 13), none⟩, ⟨some 3, .mov (.tmp 14), none⟩]) (.skip))) ftx_3
def ftx_1 : CC := .seq (.region [⟨some 3, .mov (.con (.str ⟨#[111, 107]⟩)), none⟩]) ftx_2
def ftx_0 : CC := .seq (.region [⟨some 1, .box (.tmp 0), none⟩, ⟨some 2, .mov (.con (.str ⟨#[]⟩)), none⟩]) ftx_1
theorem ftx_eq : c_regencyref12_Text = ⟨102, ftx_0, [.tmp 2]⟩ := rfl
set_option maxHeartbeats 16000000 in
theorem ft8 {r : Rep} (hr : okX r) {b : List UInt8} (hb : b.length ≤ 5000000000) {v53 v54 v55 v56 v57 v58 v59 v60 v61 v62 v63 v64 v65 v66 v67 v68 v69 v70 : AV} :
    ∃ σ', den T ftx_8 [.any, .box 0 0, .any, .str ⟨b.toArray⟩, undefA, .any, undefA, undefA, .any, .any, .any, .any, .any, .any, .any, .any, .any, .any, .any, .any, .any, .any, .any, .any, .any, .any, .any, .any, .any, .any, .any, .any, .any, .any, .any, .any, .any, .any, .any, .any, .any, .any, .any, .any, .any, .any, .any, .any, .any, .any, .any, .any, .any, v53, v54, v55, v56, v57, v58, v59, v60, v61, v62, v63, v64, v65, v66, v67, v68, v69, v70, undefA, undefA, undefA, undefA, undefA, undefA, undefA, undefA, undefA, undefA, undefA, undefA, undefA, undefA, undefA, undefA, undefA, undefA, undefA, undefA, undefA, undefA, undefA, undefA, undefA, undefA, undefA, undefA, undefA, undefA, undefA] [.cells (encR r)] = some (.ret, σ', .cells (encR r) :: r.kids.map bxK) ∧ σ'.getD 2 undefA = .str ⟨(b ++ kidF false r.kids).toArray⟩ := by
  have hlp := fkd_loop hr.kid hr.kids r.kids.length 0 [.cells (encR r)] b (by omega) (by omega)
  simp only [List.drop_zero, show ((0 : Nat) : Int) = 0 from rfl, show decide (0 < 0) = false from rfl, List.cons_append, List.nil_append] at hlp
  unfold ftx_8 ftx_9 ftx_10
  simp only [encR] at hlp ⊢
  simp (maxSteps := 4000000) -implicitDefEqProofs (disch := (refine id_ok ?_; first | assumption | omega | (simp only [go_sem, List.size_toArray, List.length_map, List.length_append, List.length_take, List.length_drop, List.length_cons, List.length_nil, mrLL_app, keyD_i, keyD_s, keyD_b, Nat.reduceAdd, Nat.reduceEqDiff, Nat.reduceLeDiff] <;> omega) | with_unfolding_all rfl | decide)) only [go_sem, Nat.reduceAdd, Nat.reduceSub, Nat.reduceMul, Nat.reduceLeDiff, Nat.reduceEqDiff, Nat.reduceBEq, reduceIte, reduceCtorEq, encR, List.length_map, hlp]
  try exact ⟨_, rfl, rfl⟩
set_option maxHeartbeats 16000000 in
theorem ft7 {r : Rep} (hr : okX r) {b : List UInt8} (hb : b.length ≤ 5000) {v53 v54 v55 v56 v57 v58 v59 v60 : AV} :
    ∃ σ', den T ftx_7 [.any, .box 0 0, .any, .str ⟨b.toArray⟩, undefA, .any, undefA, undefA, .any, .any, .any, .any, .any, .any, .any, .any, .any, .any, .any, .any, .any, .any, .any, .any, .any, .any, .any, .any, .any, .any, .any, .any, .any, .any, .any, .any, .any, .any, .any, .any, .any, .any, .any, .any, .any, .any, .any, .any, .any, .any, .any, .any, .any, v53, v54, v55, v56, v57, v58, v59, v60, undefA, undefA, undefA, undefA, undefA, undefA, undefA, undefA, undefA, undefA, undefA, undefA, undefA, undefA, undefA, undefA, undefA, undefA, undefA, undefA, undefA, undefA, undefA, undefA, undefA, undefA, undefA, undefA, undefA, undefA, undefA, undefA, undefA, undefA, undefA, undefA, undefA, undefA, undefA, undefA, undefA] [.cells (encR r)] = some (.ret, σ', .cells (encR r) :: r.kids.map bxK) ∧ σ'.getD 2 undefA = .str ⟨(b ++ (fL r ++ (kidF false r.kids))).toArray⟩ := by
  have t := l6tx_run hr.ents hr.label
  have hw := labT_len hr
  unfold fL
  by_cases h0 : r.label = []
  · rw [if_pos h0, List.nil_append]
    have ih := @ft8 r hr b (by omega)
    generalize b ++ (kidF false r.kids) = J at ih ⊢
    have hd := (show decide ((r.label.length : Int) > 0) = false by rw [h0]; rfl)
    unfold ftx_7
    simp only [encR] at ih ⊢
    simp (maxSteps := 4000000) -implicitDefEqProofs (disch := (refine id_ok ?_; first | assumption | omega | (simp only [go_sem, List.size_toArray, List.length_map, List.length_append, List.length_take, List.length_drop, List.length_cons, List.length_nil, mrLL_app, keyD_i, keyD_s, keyD_b, Nat.reduceAdd, Nat.reduceEqDiff, Nat.reduceLeDiff] <;> omega) | with_unfolding_all rfl | decide)) only [go_sem, Nat.reduceAdd, Nat.reduceSub, Nat.reduceMul, Nat.reduceLeDiff, Nat.reduceEqDiff, Nat.reduceBEq, reduceIte, reduceCtorEq, encR, List.length_map, hd]
    exact ih
  · rw [if_neg h0, ← List.append_assoc]
    have ih := @ft8 r hr (b ++ (32 :: labT r.label)) (by simp only [List.length_append, List.length_cons, List.length_nil]; omega)
    generalize (b ++ (32 :: labT r.label)) ++ (kidF false r.kids) = J at ih ⊢
    have hd := len_pos h0
    unfold ftx_7
    simp only [encR] at ih ⊢
    simp (maxSteps := 4000000) -implicitDefEqProofs (disch := (refine id_ok ?_; first | assumption | omega | (simp only [go_sem, List.size_toArray, List.length_map, List.length_append, List.length_take, List.length_drop, List.length_cons, List.length_nil, mrLL_app, keyD_i, keyD_s, keyD_b, Nat.reduceAdd, Nat.reduceEqDiff, Nat.reduceLeDiff] <;> omega) | with_unfolding_all rfl | decide)) only [go_sem, Nat.reduceAdd, Nat.reduceSub, Nat.reduceMul, Nat.reduceLeDiff, Nat.reduceEqDiff, Nat.reduceBEq, reduceIte, reduceCtorEq, encR, List.length_map, hd, t, List.append_assoc, List.cons_append, List.nil_append] at ih ⊢
    exact ih
set_option maxHeartbeats 16000000 in
theorem ft6 {r : Rep} (hr : okX r) {b : List UInt8} (hb : b.length ≤ 3900) :
    ∃ σ', den T ftx_6 [.any, .box 0 0, .any, .str ⟨b.toArray⟩, undefA, .any, undefA, undefA, .any, .any, .any, .any, .any, .any, .any, .any, .any, .any, .any, .any, .any, .any, .any, .any, .any, .any, .any, .any, .any, .any, .any, .any, .any, .any, .any, .any, .any, .any, .any, .any, .any, .any, .any, .any, .any, .any, .any, .any, .any, .any, .any, .any, .any, undefA, undefA, undefA, undefA, undefA, undefA, undefA, undefA, undefA, undefA, undefA, undefA, undefA, undefA, undefA, undefA, undefA, undefA, undefA, undefA, undefA, undefA, undefA, undefA, undefA, undefA, undefA, undefA, undefA, undefA, undefA, undefA, undefA, undefA, undefA, undefA, undefA, undefA, undefA, undefA, undefA, undefA, undefA, undefA, undefA, undefA, undefA, undefA, undefA] [.cells (encR r)] = some (.ret, σ', .cells (encR r) :: r.kids.map bxK) ∧ σ'.getD 2 undefA = .str ⟨(b ++ (fC r ++ (fL r ++ kidF false r.kids))).toArray⟩ := by
  have hw := hr.cat
  unfold fC
  by_cases h0 : r.cat = []
  · rw [if_pos h0, List.nil_append]
    have ih := @ft7 r hr b (by omega)
    generalize b ++ (fL r ++ kidF false r.kids) = J at ih ⊢
    have hd := (show (r.cat == []) = true by rw [h0]; rfl)
    unfold ftx_6
    simp only [encR] at ih ⊢
    simp (maxSteps := 4000000) -implicitDefEqProofs (disch := (refine id_ok ?_; first | assumption | omega | (simp only [go_sem, List.size_toArray, List.length_map, List.length_append, List.length_take, List.length_drop, List.length_cons, List.length_nil, mrLL_app, keyD_i, keyD_s, keyD_b, Nat.reduceAdd, Nat.reduceEqDiff, Nat.reduceLeDiff] <;> omega) | with_unfolding_all rfl | decide)) only [go_sem, Nat.reduceAdd, Nat.reduceSub, Nat.reduceMul, Nat.reduceLeDiff, Nat.reduceEqDiff, Nat.reduceBEq, reduceIte, reduceCtorEq, encR, List.length_map, hd]
    exact ih
  · rw [if_neg h0, ← List.append_assoc]
    have ih := @ft7 r hr (b ++ (32 :: r.cat)) (by simp only [List.length_append, List.length_cons, List.length_nil]; omega)
    generalize (b ++ (32 :: r.cat)) ++ (fL r ++ kidF false r.kids) = J at ih ⊢
    have hd := (show (r.cat == []) = false by simpa using h0)
    unfold ftx_6
    simp only [encR] at ih ⊢
    simp (maxSteps := 4000000) -implicitDefEqProofs (disch := (refine id_ok ?_; first | assumption | omega | (simp only [go_sem, List.size_toArray, List.length_map, List.length_append, List.length_take, List.length_drop, List.length_cons, List.length_nil, mrLL_app, keyD_i, keyD_s, keyD_b, Nat.reduceAdd, Nat.reduceEqDiff, Nat.reduceLeDiff] <;> omega) | with_unfolding_all rfl | decide)) only [go_sem, Nat.reduceAdd, Nat.reduceSub, Nat.reduceMul, Nat.reduceLeDiff, Nat.reduceEqDiff, Nat.reduceBEq, reduceIte, reduceCtorEq, encR, List.length_map, hd, List.append_assoc, List.cons_append, List.nil_append] at ih ⊢
    exact ih
set_option maxHeartbeats 16000000 in
theorem ft5 {r : Rep} (hr : okX r) {b : List UInt8} (hb : b.length ≤ 1800) {v0 v2 v8 v9 v10 v11 v12 v13 v14 v15 v16 v17 v18 v19 v20 v21 v22 v23 v24 v25 v26 v27 v28 v29 : AV} :
    ∃ σ', den T ftx_5 [v0, .box 0 0, v2, .str ⟨b.toArray⟩, undefA, undefA, undefA, undefA, v8, v9, v10, v11, v12, v13, v14, v15, v16, v17, v18, v19, v20, v21, v22, v23, v24, v25, v26, v27, v28, v29, undefA, undefA, undefA, undefA, undefA, undefA, undefA, undefA, undefA, undefA, undefA, undefA, undefA, undefA, undefA, undefA, undefA, undefA, undefA, undefA, undefA, undefA, undefA, undefA, undefA, undefA, undefA, undefA, undefA, undefA, undefA, undefA, undefA, undefA, undefA, undefA, undefA, undefA, undefA, undefA, undefA, undefA, undefA, undefA, undefA, undefA, undefA, undefA, undefA, undefA, undefA, undefA, undefA, undefA, undefA, undefA, undefA, undefA, undefA, undefA, undefA, undefA, undefA, undefA, undefA, undefA, undefA, undefA, undefA, undefA, undefA, undefA] [.cells (encR r)] = some (.ret, σ', .cells (encR r) :: r.kids.map bxK) ∧ σ'.getD 2 undefA = .str ⟨(b ++ (hexL r.text ++ (fC r ++ (fL r ++ kidF false r.kids)))).toArray⟩ := by
  have hlp := fhx_loop (v1 := .box 0 0) (h := [.cells (encR r)]) (l := r.text) (by have := hr.text; omega) r.text.length 0 b (by omega) (by omega)
  simp only [List.drop_zero, show ((0 : Nat) : Int) = 0 from rfl] at hlp
  have hx := hexL_len r.text
  have ht := hr.text
  have ih := @ft6 r hr (b ++ hexL r.text) (by rw [List.length_append]; omega)
  rw [← List.append_assoc]
  generalize (b ++ hexL r.text) ++ (fC r ++ (fL r ++ kidF false r.kids)) = J at ih ⊢
  unfold ftx_5
  simp only [encR] at ih hlp ⊢
  simp (maxSteps := 4000000) -implicitDefEqProofs (disch := (refine id_ok ?_; first | assumption | omega | (simp only [go_sem, List.size_toArray, List.length_map, List.length_append, List.length_take, List.length_drop, List.length_cons, List.length_nil, mrLL_app, keyD_i, keyD_s, keyD_b, Nat.reduceAdd, Nat.reduceEqDiff, Nat.reduceLeDiff] <;> omega) | with_unfolding_all rfl | decide)) only [go_sem, Nat.reduceAdd, Nat.reduceSub, Nat.reduceMul, Nat.reduceLeDiff, Nat.reduceEqDiff, Nat.reduceBEq, reduceIte, reduceCtorEq, encR, List.length_map, hlp]
  exact ih
set_option maxHeartbeats 16000000 in
theorem ft4 {r : Rep} (hr : okX r) {b : List UInt8} (hb : b.length ≤ 1700) {v0 v2 v8 v9 v10 v11 v12 v13 v14 v15 v16 v17 v18 v19 v20 v21 v22 v23 : AV} :
    ∃ σ', den T ftx_4 [v0, .box 0 0, v2, .str ⟨b.toArray⟩, undefA, undefA, undefA, undefA, v8, v9, v10, v11, v12, v13, v14, v15, v16, v17, v18, v19, v20, v21, v22, v23, undefA, undefA, undefA, undefA, undefA, undefA, undefA, undefA, undefA, undefA, undefA, undefA, undefA, undefA, undefA, undefA, undefA, undefA, undefA, undefA, undefA, undefA, undefA, undefA, undefA, undefA, undefA, undefA, undefA, undefA, undefA, undefA, undefA, undefA, undefA, undefA, undefA, undefA, undefA, undefA, undefA, undefA, undefA, undefA, undefA, undefA, undefA, undefA, undefA, undefA, undefA, undefA, undefA, undefA, undefA, undefA, undefA, undefA, undefA, undefA, undefA, undefA, undefA, undefA, undefA, undefA, undefA, undefA, undefA, undefA, undefA, undefA, undefA, undefA, undefA, undefA, undefA, undefA] [.cells (encR r)] = some (.ret, σ', .cells (encR r) :: r.kids.map bxK) ∧ σ'.getD 2 undefA = .str ⟨(b ++ (fS r ++ (hexL r.text ++ (fC r ++ (fL r ++ kidF false r.kids))))).toArray⟩ := by
  unfold fS
  by_cases h0 : r.text = []
  · rw [if_pos h0, List.nil_append]
    have ih := @ft5 r hr b (by omega)
    generalize b ++ (hexL r.text ++ (fC r ++ (fL r ++ kidF false r.kids))) = J at ih ⊢
    have hd := (show decide ((r.text.length : Int) > 0) = false by rw [h0]; rfl)
    unfold ftx_4
    simp only [encR] at ih ⊢
    simp (maxSteps := 4000000) -implicitDefEqProofs (disch := (refine id_ok ?_; first | assumption | omega | (simp only [go_sem, List.size_toArray, List.length_map, List.length_append, List.length_take, List.length_drop, List.length_cons, List.length_nil, mrLL_app, keyD_i, keyD_s, keyD_b, Nat.reduceAdd, Nat.reduceEqDiff, Nat.reduceLeDiff] <;> omega) | with_unfolding_all rfl | decide)) only [go_sem, Nat.reduceAdd, Nat.reduceSub, Nat.reduceMul, Nat.reduceLeDiff, Nat.reduceEqDiff, Nat.reduceBEq, reduceIte, reduceCtorEq, encR, List.length_map, hd]
    exact ih
  · rw [if_neg h0, ← List.append_assoc]
    have ih := @ft5 r hr (b ++ ([32])) (by simp only [List.length_append, List.length_cons, List.length_nil]; omega)
    generalize (b ++ ([32])) ++ (hexL r.text ++ (fC r ++ (fL r ++ kidF false r.kids))) = J at ih ⊢
    have hd := len_pos h0
    unfold ftx_4
    simp only [encR] at ih ⊢
    simp (maxSteps := 4000000) -implicitDefEqProofs (disch := (refine id_ok ?_; first | assumption | omega | (simp only [go_sem, List.size_toArray, List.length_map, List.length_append, List.length_take, List.length_drop, List.length_cons, List.length_nil, mrLL_app, keyD_i, keyD_s, keyD_b, Nat.reduceAdd, Nat.reduceEqDiff, Nat.reduceLeDiff] <;> omega) | with_unfolding_all rfl | decide)) only [go_sem, Nat.reduceAdd, Nat.reduceSub, Nat.reduceMul, Nat.reduceLeDiff, Nat.reduceEqDiff, Nat.reduceBEq, reduceIte, reduceCtorEq, encR, List.length_map, hd, List.append_assoc, List.cons_append, List.nil_append] at ih ⊢
    exact ih
set_option maxHeartbeats 16000000 in
theorem ft3 {r : Rep} (hr : okX r) {b : List UInt8} (hb : b.length ≤ 100) {v0 v2 v8 v9 v10 v11 v12 v13 v14 : AV} :
    ∃ σ', den T ftx_3 [v0, .box 0 0, v2, .str ⟨b.toArray⟩, undefA, undefA, undefA, undefA, v8, v9, v10, v11, v12, v13, v14, undefA, undefA, undefA, undefA, undefA, undefA, undefA, undefA, undefA, undefA, undefA, undefA, undefA, undefA, undefA, undefA, undefA, undefA, undefA, undefA, undefA, undefA, undefA, undefA, undefA, undefA, undefA, undefA, undefA, undefA, undefA, undefA, undefA, undefA, undefA, undefA, undefA, undefA, undefA, undefA, undefA, undefA, undefA, undefA, undefA, undefA, undefA, undefA, undefA, undefA, undefA, undefA, undefA, undefA, undefA, undefA, undefA, undefA, undefA, undefA, undefA, undefA, undefA, undefA, undefA, undefA, undefA, undefA, undefA, undefA, undefA, undefA, undefA, undefA, undefA, undefA, undefA, undefA, undefA, undefA, undefA, undefA, undefA, undefA, undefA, undefA, undefA] [.cells (encR r)] = some (.ret, σ', .cells (encR r) :: r.kids.map bxK) ∧ σ'.getD 2 undefA = .str ⟨(b ++ (fN r ++ (fS r ++ (hexL r.text ++ (fC r ++ (fL r ++ kidF false r.kids)))))).toArray⟩ := by
  have t := numI_run (h := []) hr.n.1 hr.n.2
  have hw := itoa_len hr.n.1 hr.n.2
  unfold fN
  by_cases h0 : r.n = 0
  · rw [if_pos h0, List.nil_append]
    have ih := @ft4 r hr b (by omega)
    generalize b ++ (fS r ++ (hexL r.text ++ (fC r ++ (fL r ++ kidF false r.kids)))) = J at ih ⊢
    have hd := (show (r.n != 0) = false by rw [h0]; rfl)
    unfold ftx_3
    simp only [encR] at ih ⊢
    simp (maxSteps := 4000000) -implicitDefEqProofs (disch := (refine id_ok ?_; first | assumption | omega | (simp only [go_sem, List.size_toArray, List.length_map, List.length_append, List.length_take, List.length_drop, List.length_cons, List.length_nil, mrLL_app, keyD_i, keyD_s, keyD_b, Nat.reduceAdd, Nat.reduceEqDiff, Nat.reduceLeDiff] <;> omega) | with_unfolding_all rfl | decide)) only [go_sem, Nat.reduceAdd, Nat.reduceSub, Nat.reduceMul, Nat.reduceLeDiff, Nat.reduceEqDiff, Nat.reduceBEq, reduceIte, reduceCtorEq, encR, List.length_map, hd]
    exact ih
  · rw [if_neg h0, ← List.append_assoc]
    have ih := @ft4 r hr (b ++ (32 :: Lib.itoa r.n)) (by simp only [List.length_append, List.length_cons, List.length_nil]; omega)
    generalize (b ++ (32 :: Lib.itoa r.n)) ++ (fS r ++ (hexL r.text ++ (fC r ++ (fL r ++ kidF false r.kids)))) = J at ih ⊢
    have hd := (show (r.n != 0) = true by simpa using h0)
    unfold ftx_3
    simp only [encR] at ih ⊢
    simp (maxSteps := 4000000) -implicitDefEqProofs (disch := (refine id_ok ?_; first | assumption | omega | (simp only [go_sem, List.size_toArray, List.length_map, List.length_append, List.length_take, List.length_drop, List.length_cons, List.length_nil, mrLL_app, keyD_i, keyD_s, keyD_b, Nat.reduceAdd, Nat.reduceEqDiff, Nat.reduceLeDiff] <;> omega) | with_unfolding_all rfl | decide)) only [go_sem, Nat.reduceAdd, Nat.reduceSub, Nat.reduceMul, Nat.reduceLeDiff, Nat.reduceEqDiff, Nat.reduceBEq, reduceIte, reduceCtorEq, encR, List.length_map, hd, t, List.append_assoc, List.cons_append, List.nil_append] at ih ⊢
    exact ih
set_option maxHeartbeats 16000000 in
theorem ft2 {r : Rep} (hr : okX r) {v0 v2 : AV} :
    ∃ σ', den T ftx_2 [v0, .box 0 0, v2, .str ⟨#[111, 107]⟩, undefA, undefA, undefA, undefA, undefA, undefA, undefA, undefA, undefA, undefA, undefA, undefA, undefA, undefA, undefA, undefA, undefA, undefA, undefA, undefA, undefA, undefA, undefA, undefA, undefA, undefA, undefA, undefA, undefA, undefA, undefA, undefA, undefA, undefA, undefA, undefA, undefA, undefA, undefA, undefA, undefA, undefA, undefA, undefA, undefA, undefA, undefA, undefA, undefA, undefA, undefA, undefA, undefA, undefA, undefA, undefA, undefA, undefA, undefA, undefA, undefA, undefA, undefA, undefA, undefA, undefA, undefA, undefA, undefA, undefA, undefA, undefA, undefA, undefA, undefA, undefA, undefA, undefA, undefA, undefA, undefA, undefA, undefA, undefA, undefA, undefA, undefA, undefA, undefA, undefA, undefA, undefA, undefA, undefA, undefA, undefA, undefA, undefA] [.cells (encR r)] = some (.ret, σ', .cells (encR r) :: r.kids.map bxK) ∧ σ'.getD 2 undefA = .str ⟨(hdW r ++ (fN r ++ (fS r ++ (hexL r.text ++ (fC r ++ (fL r ++ kidF false r.kids)))))).toArray⟩ := by
  have t := numI_run (h := []) hr.e.1 hr.e.2
  have hil := itoa_len hr.e.1 hr.e.2
  unfold hdW
  by_cases h0 : r.e = 0
  · rw [if_pos h0]
    have ih := @ft3 r hr [111, 107] (by decide)
    generalize [111, 107] ++ (fN r ++ (fS r ++ (hexL r.text ++ (fC r ++ (fL r ++ kidF false r.kids))))) = J at ih ⊢
    have hd : (r.e != 0) = false := by rw [h0]; rfl
    unfold ftx_2
    simp only [encR] at ih ⊢
    simp (maxSteps := 4000000) -implicitDefEqProofs (disch := (refine id_ok ?_; first | assumption | omega | (simp only [go_sem, List.size_toArray, List.length_map, List.length_append, List.length_take, List.length_drop, List.length_cons, List.length_nil, mrLL_app, keyD_i, keyD_s, keyD_b, Nat.reduceAdd, Nat.reduceEqDiff, Nat.reduceLeDiff] <;> omega) | with_unfolding_all rfl | decide)) only [go_sem, Nat.reduceAdd, Nat.reduceSub, Nat.reduceMul, Nat.reduceLeDiff, Nat.reduceEqDiff, Nat.reduceBEq, reduceIte, reduceCtorEq, encR, hd]
    exact ih
  · rw [if_neg h0]
    have ih := @ft3 r hr ([101, 114, 114, 111, 114, 32] ++ Lib.itoa r.e) (by simp; omega)
    generalize ([101, 114, 114, 111, 114, 32] ++ Lib.itoa r.e) ++ (fN r ++ (fS r ++ (hexL r.text ++ (fC r ++ (fL r ++ kidF false r.kids))))) = J at ih ⊢
    have hd : (r.e != 0) = true := by simpa using h0
    unfold ftx_2
    simp only [encR] at ih ⊢
    simp (maxSteps := 4000000) -implicitDefEqProofs (disch := (refine id_ok ?_; first | assumption | omega | (simp only [go_sem, List.size_toArray, List.length_map, List.length_append, List.length_take, List.length_drop, List.length_cons, List.length_nil, mrLL_app, keyD_i, keyD_s, keyD_b, Nat.reduceAdd, Nat.reduceEqDiff, Nat.reduceLeDiff] <;> omega) | with_unfolding_all rfl | decide)) only [go_sem, Nat.reduceAdd, Nat.reduceSub, Nat.reduceMul, Nat.reduceLeDiff, Nat.reduceEqDiff, Nat.reduceBEq, reduceIte, reduceCtorEq, encR, hd, t]
    exact ih
def telF (r : Rep) : List UInt8 := hdW r ++ (fN r ++ (fS r ++ (hexL r.text ++ (fC r ++ (fL r ++ kidF false r.kids)))))
set_option maxHeartbeats 16000000 in
theorem telF_run {r : Rep} (hr : okX r) : run T 28 [.agg (encR r)] [] = some (.str ⟨(telF r).toArray⟩, []) := by
  obtain ⟨σ', h1, h2⟩ := @ft2 r hr (.agg (encR r)) (.str ⟨#[]⟩)
  rw [run_code T_28, ftx_eq]
  unfold telF
  generalize hdW r ++ (fN r ++ (fS r ++ (hexL r.text ++ (fC r ++ (fL r ++ kidF false r.kids))))) = J at h2 ⊢
  simp only [encR] at h1 ⊢
  simp (maxSteps := 4000000) -implicitDefEqProofs (disch := (refine id_ok ?_; first | assumption | omega | (simp only [go_sem, List.size_toArray, List.length_map, List.length_append, List.length_take, List.length_drop, List.length_cons, List.length_nil, mrLL_app, keyD_i, keyD_s, keyD_b, Nat.reduceAdd, Nat.reduceEqDiff, Nat.reduceLeDiff] <;> omega) | with_unfolding_all rfl | decide)) only [go_sem, Nat.reduceAdd, Nat.reduceSub, Nat.reduceMul, Nat.reduceLeDiff, Nat.reduceEqDiff, Nat.reduceBEq, reduceIte, reduceCtorEq, ftx_0, ftx_1, encR, h1, h2]
theorem joinTail_app (sep : List UInt8) (a b : List (List UInt8)) : Lib.joinTail sep (a ++ b) = Lib.joinTail sep a ++ Lib.joinTail sep b := by simp [Lib.joinTail]
theorem kidF_tail : ∀ (l : List Kd), kidF true l = Lib.joinTail [44] (l.map kidT)
  | [] => rfl
  | e :: r => by rw [kidF, kidF_tail r]; simp [Lib.joinTail]
theorem telF_telR (r : Rep) : telF r = telR r := by
  unfold telF telR
  rw [List.singleton_append, Lib.join_cons, joinTail_app, joinTail_app, joinTail_app, joinTail_app]
  have e1 : Lib.joinTail [32] (numW r) = fN r := by unfold numW fN; split <;> simp [Lib.joinTail]
  have e2 : Lib.joinTail [32] (texW r) = fS r ++ hexL r.text := by
    unfold texW fS
    split
    · rename_i h; rw [h]; rfl
    · simp [Lib.joinTail]
  have e3 : Lib.joinTail [32] (catW r) = fC r := by unfold catW fC; split <;> simp [Lib.joinTail]
  have e4 : Lib.joinTail [32] (labW r) = fL r := by unfold labW fL; split <;> simp [Lib.joinTail]
  have e5 : Lib.joinTail [32] (kidW r) = kidF false r.kids := by
    unfold kidW
    cases r.kids with
    | nil => rfl
    | cons k l => rw [if_neg (by simp), kidF, kidF_tail, List.map_cons, Lib.join_cons]; simp [Lib.joinTail]
  rw [e1, e2, e3, e4, e5, List.append_assoc (fS r)]
end Go.Proofs.YtjeigcnaalleiaaGreatDoor.L
