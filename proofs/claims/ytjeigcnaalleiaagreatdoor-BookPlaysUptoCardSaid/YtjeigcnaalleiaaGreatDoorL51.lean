/- BookPlays: a round, the loop. -/
import Derived.Test.YtjeigcnaalleiaaGreatDoorL49
set_option linter.all false
set_option maxRecDepth 100000
namespace Go.Proofs.YtjeigcnaalleiaaGreatDoor.L
open Go.Proofs.YtjeigcnaalleiaaGreatDoor.M Go.Proofs.YtjeigcnaalleiaaGreatDoor.F Go.Proofs

abbrev sPl (l : List Opn) (i : Nat) : List AV := s_regencylaw17_BookPlays_0 (.box 0 0) (.box 1 0) .nilp (.sl .sh (l.map encOp)) (.int .i64 l.length) (.int .i64 i)
set_option maxHeartbeats 40000000 in
theorem plays_step {l : List Opn} {b b' : List Ln} {js : AH} {i : Nat} {c n : Int} {r : Rep} (hib : i < l.length) (hll : l.length ≤ 1048576) (hb : b.length = 8) (hb' : b'.length = 8) (hbb : shb b' = shb b) (hok : ∀ l ∈ b, okL l)
    (hge : (l.map encOp)[(i : Int).toNat]? = some (encOp (c, n, r))) (ho : okO (c, n, r)) (h50 : ¬ (i : Int) ≥ 50) (ht : ¬ (r.text.length : Int) > 600) (hk : ¬ (r.kids.length : Int) + (r.label.length : Int) > 60) (hc : ¬ (r.cat.length : Int) > 100) :
    ∃ js', den T (.loop l_regencylaw17_BookPlays_0) (sPl l i) (Bk b :: .cells (xO b') :: js) = den T (.loop l_regencylaw17_BookPlays_0) (sPl l (i + 1)) (Bk (notB b c n r).2 :: .cells (xO (shb (notB b c n r).2)) :: js') := by
  have hd' : decide ((i : Int) < l.length) = true := decide_eq_true (by omega)
  have e1 : decide ((i : Int) ≥ 50) = false := decide_eq_false h50
  have e2 : decide ((r.text.length : Int) > 600) = false := decide_eq_false ht
  obtain ⟨q1, q2, q3, q4, q5⟩ := ho
  simp only at q1 q2 q3 q4 q5
  have e3' : IntKind.i64.wrap ((r.kids.length : Int) + (r.label.length : Int)) = (r.kids.length : Int) + (r.label.length : Int) := w64 (by omega) (by omega)
  have e3 : decide ((r.kids.length : Int) + (r.label.length : Int) > 60) = false := decide_eq_false hk
  have e4 : decide ((r.cat.length : Int) > 100) = false := decide_eq_false hc
  have hor : okR r := okO_R (o := (c, n, r)) ⟨q1, q2, q3, q4, q5⟩ (by simp only; omega)
  obtain ⟨s1, s2, _⟩ := not_spec (c := c) (n := n) (r := r) hb hok
  have hB : (shb b).length = 8 := by rw [shb_len, hb]
  have hsB : ∀ l ∈ shb b, 0 ≤ l.1 ∧ l.1 ≤ 1048576 := fun x hx => by
    obtain ⟨y, hy, rfl⟩ := List.mem_map.1 hx
    exact (show 0 ≤ y.1 ∧ y.1 ≤ 1048576 from okL_n (hok y hy))
  have t1 := fun js => ver0 (c := c) (n := n) (js := js) hb hok
  have rv := rver_run (c := c) (n := n) hB hsB
  rw [verB_shb] at rv
  have rn := rnot_run (c := c) (n := n) (r := r) hB (shb_shb b) hsB (by omega) (by omega) (fun e he => by have := q4 e he; omega)
  rw [notB_shb, rnotB_shb] at rn
  have t2 := fun js => not0 (c := c) (n := n) (js := js) hb hok hor
  have nv := fun h => verN_run (c := c) (n := n) (h := h)
  have nn := fun h => notN_run (c := c) (n := n) (r := r) (h := h)
  have hlx : (xO b').length = 56 := by rw [xO_len, hb']
  have hlex : Nat.ble 56 (xO b').length = true := by rw [hlx]; rfl
  have htkx : (xO b').take 56 = xO b' := List.take_of_length_le (by omega)
  have hshx : shL (xO b') = xO (shb b) := by rw [shL_xO, hbb]
  have hshy : shL (xO (shb b)) = xO (shb b) := by rw [shL_xO, shb_shb]
  generalize verB b c n = v at *
  generalize notB b c n r = nb at *
  obtain ⟨e, b2⟩ := nb
  simp only at s1 s2 rn t2 ⊢
  have tb := fun js => byt0 (js := js) s2 s1
  have hB2 : (shb b2).length = 8 := by rw [shb_len, s2]
  have rb := rbyt_run hB2 (fun x hx => by
    obtain ⟨y, hy, rfl⟩ := List.mem_map.1 hx
    exact ⟨(show 0 ≤ y.1 ∧ y.1 ≤ 1048576 from okL_n (s1 y hy)), fun _ => (show rigR (repL y) = true from okL_rig (s1 y hy))⟩)
  rw [enL1_shb] at rb
  generalize b2.flatMap enL1 = S at *
  have t3 := fun js => lst0 (c := c) (js := js) s2 s1
  have hst2 := fun cs hcs => st56 (b := shb b2) hB2 (cs := cs) hcs
  have hl2 : (xO (shb b2)).length = 56 := by rw [xO_len, hB2]
  have hle2 : Nat.ble 56 (xO (shb b2)).length = true := by rw [hl2]; rfl
  have htk2 : (xO (shb b2)).take 56 = xO (shb b2) := List.take_of_length_le (by omega)
  have hsh2 : shL (xO (shb b2)) = xO (shb b2) := by rw [shL_xO, shb_shb]
  have e7 := inc64 (n := i) (by omega)
  have hq2 : ∀ x y : Bx, (js ++ [x, y]).length = js.length + 2 := fun x y => by simp
  have hq3 : ∀ x y z : Bx, (js ++ [x, y, z]).length = js.length + 3 := fun x y z => by simp
  have henc : encOp (c, n, r) = .int .i64 c :: .int .i64 n :: encR r := rfl
  rw [henc] at hge
  have sc : ∀ cs : List AV, cs.length = 56 → cs.length = 56 := fun _ h => h
  by_cases hin : 0 ≤ c ∧ c < 8
  · obtain ⟨k, rfl⟩ : ∃ k : Nat, c = k := ⟨c.toNat, by omega⟩
    have hk8 : k < b2.length := by omega
    have hkB : k < (shb b2).length := by omega
    have hin1 : decide ((k : Int) ≥ 0) = true := decide_eq_true (by omega)
    have hin2 : decide ((k : Int) < 8) = true := decide_eq_true (by omega)
    have hkt : (k : Int).toNat = k := by omega
    rw [lst_in s2 hk8 s1] at t3
    have hrg := okL_rig (s1 b2[k] (by simp))
    have hbd := rigR_all hrg
    have sm := same_run (r := repL b2[k]) (by omega) (by omega)
    have hg := xO_num hkB
    have hgr := xO_rep hB2 hkB
    rw [shb_get hk8] at hg hgr
    have hle6 : Nat.ble (8 + k * 6 + 6) (xO (shb b2)).length = true := by rw [hl2]; exact Nat.ble_eq_true_of_le (by omega)
    generalize b2[k] = ln at *
    obtain ⟨m, q⟩ := ln
    simp only at t3 hg hgr
    generalize repL (m, q) = rq at *
    simp only [encO] at hgr
    refine ⟨js ++ [.cells (.int .i64 (k : Int) :: .int .i64 n :: encR r), .cells (xO (shb b2)), .cells (encR rq), .cells (encR rq)], ?_⟩
    simp only [encR] at hge t2 t3 rn nn hgr sm ⊢
    rw [lp_round]
    simp (maxSteps := 8000000) -implicitDefEqProofs (disch := (refine id_ok ?_; first | assumption | omega | (simp only [go_sem, List.size_toArray, List.length_map, List.length_append, List.length_take, List.length_drop, List.length_cons, List.length_nil, mrLL_app, keyD_i, keyD_s, keyD_b, Nat.reduceAdd, Nat.reduceEqDiff, Nat.reduceLeDiff] <;> omega) | with_unfolding_all rfl | decide)) only [go_sem, Nat.reduceAdd, Nat.reduceSub, Nat.reduceMul, Nat.reduceLeDiff, Nat.reduceEqDiff, Nat.reduceBEq, reduceIte, reduceCtorEq, hd', hge, e1, app_get, app_get0, app_set, app_set0, hq2, hq3, List.length_map, List.size_toArray, e2, e3', e3, e4, t1, hlex, htkx, hshx, hshy, List.drop_zero, rv, nv, rn, hst2, hl2, hlx, hle2, htk2, hsh2, t2, nn, tb, rb, t3, hin1, hin2, hkt, Nat.mul_one, hg, hle6, hgr, sm, e7]
    rfl
  · rw [lst_out hin] at t3
    have hin1 : decide (c ≥ 0) = false ∨ (decide (c ≥ 0) = true ∧ decide (c < 8) = false) := by
      by_cases h0 : 0 ≤ c
      · right; exact ⟨decide_eq_true h0, decide_eq_false (by omega)⟩
      · left; exact decide_eq_false (by omega)
    have sm := same_run (r := zeroR) (by decide) (by decide)
    have hz : encR zeroR = [.int .i64 0, .int .i64 0, .sl .sh [], .str ⟨#[]⟩, .sl .sh [], .sl .sh []] := rfl
    rw [hz] at sm
    simp only [hz] at t3
    refine ⟨js ++ [.cells (.int .i64 c :: .int .i64 n :: encR r), .cells (xO (shb b2)), .cells [.int .i64 0, .int .i64 0, .sl .sh [], .str ⟨#[]⟩, .sl .sh [], .sl .sh []], .cells [.int .i64 0, .int .i64 0, ow [], .str ⟨#[]⟩, ow [], ow []]], ?_⟩
    simp only [encR] at hge t2 rn nn ⊢
    rcases hin1 with hin1 | ⟨hin1, hin2⟩
    · rw [lp_round]
      simp (maxSteps := 8000000) -implicitDefEqProofs (disch := (refine id_ok ?_; first | assumption | omega | (simp only [go_sem, List.size_toArray, List.length_map, List.length_append, List.length_take, List.length_drop, List.length_cons, List.length_nil, mrLL_app, keyD_i, keyD_s, keyD_b, Nat.reduceAdd, Nat.reduceEqDiff, Nat.reduceLeDiff] <;> omega) | with_unfolding_all rfl | decide)) only [go_sem, Nat.reduceAdd, Nat.reduceSub, Nat.reduceMul, Nat.reduceLeDiff, Nat.reduceEqDiff, Nat.reduceBEq, reduceIte, reduceCtorEq, hd', hge, e1, app_get, app_get0, app_set, app_set0, hq2, hq3, List.length_map, List.size_toArray, e2, e3', e3, e4, t1, hlex, htkx, hshx, hshy, List.drop_zero, rv, nv, rn, hst2, hl2, hlx, hle2, htk2, hsh2, t2, nn, tb, rb, t3, hin1, sm, e7]
      rfl
    · rw [lp_round]
      simp (maxSteps := 8000000) -implicitDefEqProofs (disch := (refine id_ok ?_; first | assumption | omega | (simp only [go_sem, List.size_toArray, List.length_map, List.length_append, List.length_take, List.length_drop, List.length_cons, List.length_nil, mrLL_app, keyD_i, keyD_s, keyD_b, Nat.reduceAdd, Nat.reduceEqDiff, Nat.reduceLeDiff] <;> omega) | with_unfolding_all rfl | decide)) only [go_sem, Nat.reduceAdd, Nat.reduceSub, Nat.reduceMul, Nat.reduceLeDiff, Nat.reduceEqDiff, Nat.reduceBEq, reduceIte, reduceCtorEq, hd', hge, e1, app_get, app_get0, app_set, app_set0, hq2, hq3, List.length_map, List.size_toArray, e2, e3', e3, e4, t1, hlex, htkx, hshx, hshy, List.drop_zero, rv, nv, rn, hst2, hl2, hlx, hle2, htk2, hsh2, t2, nn, tb, rb, t3, hin1, hin2, sm, e7]
      rfl
end Go.Proofs.YtjeigcnaalleiaaGreatDoor.L

/- BookPlays: the law. -/
set_option linter.all false
set_option maxRecDepth 100000
namespace Go.Proofs.YtjeigcnaalleiaaGreatDoor.L
open Go.Proofs.YtjeigcnaalleiaaGreatDoor.M Go.Proofs.YtjeigcnaalleiaaGreatDoor.F Go.Proofs

set_option maxHeartbeats 16000000 in
theorem plays_stop {l : List Opn} {X : Bx} {b : List Ln} {js : AH} {i : Nat} {c n : Int} {r : Rep} (hib : i < l.length) (hll : l.length ≤ 1048576)
    (hge : (l.map encOp)[(i : Int).toNat]? = some (encOp (c, n, r))) (ho : okO (c, n, r)) (hs : (i : Int) ≥ 50 ∨ (r.text.length : Int) > 600 ∨ (r.kids.length : Int) + (r.label.length : Int) > 60 ∨ (r.cat.length : Int) > 100) :
    ∃ σ h', den T (.loop l_regencylaw17_BookPlays_0) (sPl l i) (Bk b :: X :: js) = some (.ret, σ, h') ∧ σ.getD 2 undefA = .bool true := by
  have hd' : decide ((i : Int) < l.length) = true := decide_eq_true (by omega)
  obtain ⟨q1, q2, q3, q4, q5⟩ := ho
  simp only at q1 q2 q3 q4 q5
  have e3' : IntKind.i64.wrap ((r.kids.length : Int) + (r.label.length : Int)) = (r.kids.length : Int) + (r.label.length : Int) := w64 (by omega) (by omega)
  have henc : encOp (c, n, r) = .int .i64 c :: .int .i64 n :: encR r := rfl
  rw [henc] at hge
  simp only [encR] at hge
  by_cases h50 : (i : Int) ≥ 50
  · have e1 : decide ((i : Int) ≥ 50) = true := decide_eq_true h50
    rw [lp_round]
    simp (maxSteps := 4000000) -implicitDefEqProofs (disch := (refine id_ok ?_; first | assumption | omega | (simp only [go_sem, List.size_toArray, List.length_map, List.length_append, List.length_take, List.length_drop, List.length_cons, List.length_nil, mrLL_app, keyD_i, keyD_s, keyD_b, Nat.reduceAdd, Nat.reduceEqDiff, Nat.reduceLeDiff] <;> omega) | with_unfolding_all rfl | decide)) only [go_sem, Nat.reduceAdd, Nat.reduceSub, Nat.reduceMul, Nat.reduceLeDiff, Nat.reduceEqDiff, Nat.reduceBEq, reduceIte, reduceCtorEq, hd', hge, e1, app_get, app_get0, app_set, app_set0]
    exact ⟨_, _, ⟨rfl, rfl⟩, rfl⟩
  have e1 : decide ((i : Int) ≥ 50) = false := decide_eq_false h50
  by_cases ht : (r.text.length : Int) > 600
  · have e2 : decide ((r.text.length : Int) > 600) = true := decide_eq_true ht
    rw [lp_round]
    simp (maxSteps := 4000000) -implicitDefEqProofs (disch := (refine id_ok ?_; first | assumption | omega | (simp only [go_sem, List.size_toArray, List.length_map, List.length_append, List.length_take, List.length_drop, List.length_cons, List.length_nil, mrLL_app, keyD_i, keyD_s, keyD_b, Nat.reduceAdd, Nat.reduceEqDiff, Nat.reduceLeDiff] <;> omega) | with_unfolding_all rfl | decide)) only [go_sem, Nat.reduceAdd, Nat.reduceSub, Nat.reduceMul, Nat.reduceLeDiff, Nat.reduceEqDiff, Nat.reduceBEq, reduceIte, reduceCtorEq, hd', hge, e1, app_get, app_get0, app_set, app_set0, List.length_map, e2]
    exact ⟨_, _, ⟨rfl, rfl⟩, rfl⟩
  have e2 : decide ((r.text.length : Int) > 600) = false := decide_eq_false ht
  by_cases hk : (r.kids.length : Int) + (r.label.length : Int) > 60
  · have e3 : decide ((r.kids.length : Int) + (r.label.length : Int) > 60) = true := decide_eq_true hk
    rw [lp_round]
    simp (maxSteps := 4000000) -implicitDefEqProofs (disch := (refine id_ok ?_; first | assumption | omega | (simp only [go_sem, List.size_toArray, List.length_map, List.length_append, List.length_take, List.length_drop, List.length_cons, List.length_nil, mrLL_app, keyD_i, keyD_s, keyD_b, Nat.reduceAdd, Nat.reduceEqDiff, Nat.reduceLeDiff] <;> omega) | with_unfolding_all rfl | decide)) only [go_sem, Nat.reduceAdd, Nat.reduceSub, Nat.reduceMul, Nat.reduceLeDiff, Nat.reduceEqDiff, Nat.reduceBEq, reduceIte, reduceCtorEq, hd', hge, e1, app_get, app_get0, app_set, app_set0, List.length_map, e2, e3', e3]
    exact ⟨_, _, ⟨rfl, rfl⟩, rfl⟩
  have e3 : decide ((r.kids.length : Int) + (r.label.length : Int) > 60) = false := decide_eq_false hk
  have hc : (r.cat.length : Int) > 100 := by omega
  have e4 : decide ((r.cat.length : Int) > 100) = true := decide_eq_true hc
  rw [lp_round]
  simp (maxSteps := 4000000) -implicitDefEqProofs (disch := (refine id_ok ?_; first | assumption | omega | (simp only [go_sem, List.size_toArray, List.length_map, List.length_append, List.length_take, List.length_drop, List.length_cons, List.length_nil, mrLL_app, keyD_i, keyD_s, keyD_b, Nat.reduceAdd, Nat.reduceEqDiff, Nat.reduceLeDiff] <;> omega) | with_unfolding_all rfl | decide)) only [go_sem, Nat.reduceAdd, Nat.reduceSub, Nat.reduceMul, Nat.reduceLeDiff, Nat.reduceEqDiff, Nat.reduceBEq, reduceIte, reduceCtorEq, hd', hge, e1, app_get, app_get0, app_set, app_set0, List.length_map, List.size_toArray, e2, e3', e3, e4]
  exact ⟨_, _, ⟨rfl, rfl⟩, rfl⟩
theorem plays_loop {l : List Opn} (hl : ∀ o ∈ l, okO o) (hll : l.length ≤ 1048576) : ∀ (d i : Nat) (b b' : List Ln) (js : AH), d + i = l.length → b.length = 8 → b'.length = 8 → shb b' = shb b → (∀ l ∈ b, okL l) →
    (∃ c c' js', (∀ l ∈ c, okL l) ∧ c.length = 8 ∧ c'.length = 8 ∧ shb c' = shb c ∧ den T (.loop l_regencylaw17_BookPlays_0) (sPl l i) (Bk b :: .cells (xO b') :: js) = some (.exit 0, x_regencylaw17_BookPlays_0 (.box 0 0) (.box 1 0) .nilp, Bk c :: .cells (xO c') :: js')) ∨
    ∃ σ h', den T (.loop l_regencylaw17_BookPlays_0) (sPl l i) (Bk b :: .cells (xO b') :: js) = some (.ret, σ, h') ∧ σ.getD 2 undefA = .bool true := by
  intro d
  induction d with
  | zero =>
    intro i b b' js hd hb hb' hbb hok
    have hd' : decide ((i : Int) < l.length) = false := decide_eq_false (by omega)
    refine .inl ⟨b, b', js, hok, hb, hb', hbb, ?_⟩
    rw [lp_round]
    simp -implicitDefEqProofs (disch := (refine id_ok ?_; first | assumption | omega | (simp only [go_sem, List.size_toArray, List.length_map, List.length_append, List.length_take, List.length_drop, List.length_cons, List.length_nil, mrLL_app, keyD_i, keyD_s, keyD_b, Nat.reduceAdd, Nat.reduceEqDiff, Nat.reduceLeDiff] <;> omega) | with_unfolding_all rfl | decide)) only [go_sem, Nat.reduceAdd, Nat.reduceSub, Nat.reduceMul, Nat.reduceLeDiff, Nat.reduceEqDiff, Nat.reduceBEq, reduceIte, reduceCtorEq, hd']
  | succ d ih =>
    intro i b b' js hd hb hb' hbb hok
    have hib : i < l.length := by omega
    have hge : (l.map encOp)[(i : Int).toNat]? = some (encOp l[i]) := by simp [hib]
    have hcl := hl l[i] (by simp)
    generalize l[i] = o at *
    obtain ⟨c, n, r⟩ := o
    by_cases hs : (i : Int) ≥ 50 ∨ (r.text.length : Int) > 600 ∨ (r.kids.length : Int) + (r.label.length : Int) > 60 ∨ (r.cat.length : Int) > 100
    · exact .inr (plays_stop hib hll hge hcl hs)
    · simp only [not_or] at hs
      obtain ⟨js', h1⟩ := plays_step (js := js) hib hll hb hb' hbb hok hge hcl hs.1 hs.2.1 hs.2.2.1 hs.2.2.2
      obtain ⟨s1, s2, _⟩ := not_spec (c := c) (n := n) (r := r) hb hok
      rw [h1]
      exact ih (i + 1) _ _ js' (by omega) s2 (by rw [shb_len, s2]) (shb_shb _) s1
theorem enL1_cp {l : Ln} (h : okL l) : enL1 (cpL l) = enL1 l := by
  have := okL_cop h
  unfold enL1 cpL
  simp only [repL, Option.getD_some] at this ⊢
  rw [this]
theorem enL1_cps : ∀ {b : List Ln}, (∀ l ∈ b, okL l) → (b.map cpL).flatMap enL1 = b.flatMap enL1
  | [], _ => rfl
  | l :: b, h => by
    rw [List.map_cons, List.flatMap_cons, List.flatMap_cons, enL1_cp (h l (by simp)), enL1_cps fun x hx => h x (List.mem_cons_of_mem _ hx)]
theorem okR_par (x : List UInt8) : okR ((parR x).getD zeroR) := by
  unfold parR
  split
  · rename_i h; exact okR_right h.2.2
  · exact okR_zero
def x0 : List AV := [.int .i64 0, .int .i64 0, .int .i64 0, .int .i64 0, .int .i64 0, .int .i64 0, .int .i64 0, .int .i64 0, .int .i64 0, .int .i64 0, ow [], .str ⟨#[]⟩, ow [], ow [], .int .i64 0, .int .i64 0, ow [], .str ⟨#[]⟩, ow [], ow [], .int .i64 0, .int .i64 0, ow [], .str ⟨#[]⟩, ow [], ow [], .int .i64 0, .int .i64 0, ow [], .str ⟨#[]⟩, ow [], ow [], .int .i64 0, .int .i64 0, ow [], .str ⟨#[]⟩, ow [], ow [], .int .i64 0, .int .i64 0, ow [], .str ⟨#[]⟩, ow [], ow [], .int .i64 0, .int .i64 0, ow [], .str ⟨#[]⟩, ow [], ow [], .int .i64 0, .int .i64 0, ow [], .str ⟨#[]⟩, ow [], ow []]
theorem x0_eq : x0 = xO newB := rfl
set_option maxHeartbeats 16000000 in
theorem plays_run {l : List Opn} (hl : ∀ o ∈ l, okO o) (hll : l.length ≤ 1048576) : run T 3 [.sl .sh (l.map encOp)] [] = some (.bool true, []) := by
  have h1 := bnew_run (h := [])
  simp only [List.length_nil, List.nil_append] at h1
  have hlp := plays_loop hl hll l.length 0 newB newB [] (by omega) rfl rfl rfl okL_new
  rw [← x0_eq] at hlp
  simp only [sPl, x0, show ((0 : Nat) : Int) = 0 from rfl] at hlp
  rcases hlp with ⟨b, b', js, hok, hb, hb', hbb, h2⟩ | ⟨σ, h', h2, h3⟩
  · obtain ⟨H0, hH0⟩ : ∃ H0 : AH, H0 = Bk b :: .cells (xO b') :: js := ⟨_, rfl⟩
    rw [← hH0] at h2
    have g0 : H0[0]? = some (Bk b) := by rw [hH0]; rfl
    have l0 : 1 < H0.length := by rw [hH0]; simp
    have f1 := bclone_run g0 hb (fun l hl => okL_R (hok l hl))
    have g1c : (H0 ++ Bk (b.map cpL) :: b.map bxL)[H0.length]? = some (Bk (b.map cpL)) := by rw [app_get0]; rfl
    have f2 := byts_run g1c (by simp [hb]) (fun l hl => by
      obtain ⟨x, hx, rfl⟩ := List.mem_map.1 hl
      exact ⟨(show 0 ≤ x.1 ∧ x.1 ≤ 1048576 from okL_n (hok x hx)), okR_par _⟩)
    rw [enL1_cps hok] at f2
    have gx : ∀ js : AH, (H0 ++ js)[1]? = some (.cells (xO b')) := fun js => by rw [List.getElem?_append_left l0, hH0]; rfl
    have gx0 : H0[1]? = some (.cells (xO b')) := by rw [hH0]; rfl
    have hlx : (xO b').length = 56 := by rw [xO_len, hb']
    have hlex : Nat.ble 56 (xO b').length = true := by rw [hlx]; rfl
    have htkx : (xO b').take 56 = xO b' := List.take_of_length_le (by omega)
    have hshx : shL (xO b') = xO (shb b) := by rw [shL_xO, hbb]
    have hshy : shL (xO (shb b)) = xO (shb b) := by rw [shL_xO, shb_shb]
    have hB : (shb b).length = 8 := by rw [shb_len, hb]
    have rb := rbyt_run hB (fun x hx => by
      obtain ⟨y, hy, rfl⟩ := List.mem_map.1 hx
      exact ⟨(show 0 ≤ y.1 ∧ y.1 ≤ 1048576 from okL_n (hok y hy)), fun _ => (show rigR (repL y) = true from okL_rig (hok y hy))⟩)
    rw [enL1_shb] at rb
    have hE : ∀ e ∈ [((H0 ++ Bk (b.map cpL) :: b.map bxL : AH), (H0 ++ Bk (b.map cpL) :: b.map bxL : AH)), (H0, H0 ++ Bk (b.map cpL) :: b.map bxL)], sameS [1] e.1 e.2 := by
      intro e he
      simp only [List.mem_cons, List.mem_nil_iff, or_false] at he
      intro id hid
      simp only [List.mem_cons, List.mem_nil_iff, or_false] at hid
      subst hid
      rcases he with rfl | rfl
      · rfl
      · simp only [gx, gx0]
    have cn := fun h => cloN_run (h := h)
    have bn := fun h => bytN_run (h := h)
    generalize b.flatMap enL1 = S at *
    rw [run_code T_3]
    simp (maxSteps := 8000000) -implicitDefEqProofs (disch := (refine id_ok ?_; first | assumption | omega | (simp only [go_sem, List.size_toArray, List.length_map, List.length_append, List.length_take, List.length_drop, List.length_cons, List.length_nil, mrLL_app, keyD_i, keyD_s, keyD_b, Nat.reduceAdd, Nat.reduceEqDiff, Nat.reduceLeDiff] <;> omega) | with_unfolding_all rfl | decide)) only [go_sem, Nat.reduceAdd, Nat.reduceSub, Nat.reduceMul, Nat.reduceLeDiff, Nat.reduceEqDiff, Nat.reduceBEq, reduceIte, reduceCtorEq, c_regencylaw17_BookPlays, first17, h1, List.length_map, h2, f1, f2, gx, gx0, hlex, htkx, hshx, hshy, List.drop_zero, rb, cn, bn]
  · rw [run_code T_3]
    simp (maxSteps := 4000000) -implicitDefEqProofs (disch := (refine id_ok ?_; first | assumption | omega | (simp only [go_sem, List.size_toArray, List.length_map, List.length_append, List.length_take, List.length_drop, List.length_cons, List.length_nil, mrLL_app, keyD_i, keyD_s, keyD_b, Nat.reduceAdd, Nat.reduceEqDiff, Nat.reduceLeDiff] <;> omega) | with_unfolding_all rfl | decide)) only [go_sem, Nat.reduceAdd, Nat.reduceSub, Nat.reduceMul, Nat.reduceLeDiff, Nat.reduceEqDiff, Nat.reduceBEq, reduceIte, reduceCtorEq, c_regencylaw17_BookPlays, first17, h1, List.length_map, h2, h3]
end Go.Proofs.YtjeigcnaalleiaaGreatDoor.L
