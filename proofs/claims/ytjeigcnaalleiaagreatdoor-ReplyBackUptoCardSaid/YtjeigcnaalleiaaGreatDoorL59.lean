/- ReplyBack: what its function comes to. -/
import Derived.Test.YtjeigcnaalleiaaGreatDoorL57
set_option linter.all false
set_option maxRecDepth 100000
namespace Go.Proofs.YtjeigcnaalleiaaGreatDoor.L
open Go.Proofs.YtjeigcnaalleiaaGreatDoor.M Go.Proofs.YtjeigcnaalleiaaGreatDoor.F Go.Proofs

theorem first12 : run T 21 [] [] = some (.bool true, []) := run_of (n := 300) (by kernel_rfl)
theorem okR_of {r : Rep} (h : rigR r = true) : okR r := by
  obtain ⟨_, _, _, hc, _, _, _, hl, hk, _⟩ := rigR_all h
  exact ⟨by omega, by omega, fun e he => by have := (hl e he).1; omega⟩
theorem repRes_some {b : List UInt8} {r : Rep} (h : parR b = some r) : repRes b = .tup [.agg (encR r), .nili] := by unfold repRes; rw [h]
theorem repRes_none {b : List UInt8} (h : parR b = none) : repRes b = .tup [.agg (encR zeroR), fT repl 10 (er (tapE (rdR b).s))] := by unfold repRes; rw [h]; rfl
set_option maxHeartbeats 8000000 in
theorem back_run {r : Rep} {b : List UInt8} (ho : ∀ e ∈ r.label, e.1.length ≤ 281474976710656) : run T 6 [.agg (encR r), .sl .sh (b.map encB)] [] = some (.bool true, []) := by
  have h1 := first12
  have h2 := grtR_run (r := r)
  rw [run_code T_6]
  simp only [encR] at h2 ⊢
  cases hg : grtR r with
  | true =>
    rw [hg] at h2
    simp (maxSteps := 2000000) -implicitDefEqProofs (disch := (refine id_ok ?_; first | assumption | omega | (simp only [go_sem, List.size_toArray, List.length_map, List.length_append, List.length_take, List.length_drop, List.length_cons, List.length_nil, mrLL_app, keyD_i, keyD_s, keyD_b, Nat.reduceAdd, Nat.reduceEqDiff, Nat.reduceLeDiff] <;> omega) | with_unfolding_all rfl | decide)) only [go_sem, Nat.reduceAdd, Nat.reduceSub, Nat.reduceMul, Nat.reduceLeDiff, Nat.reduceEqDiff, Nat.reduceBEq, reduceIte, reduceCtorEq, c_regencylaw12_ReplyBack, encR, List.length_map, h1, h2]
  | false =>
    rw [hg] at h2
    have hll : r.label.length ≤ 30 ∧ r.kids.length ≤ 60 ∧ r.cat.length ≤ 100 := by
      simp only [grtR, Bool.or_eq_false_iff, decide_eq_false_iff_not] at hg
      omega
    by_cases hb : (b.length : Int) > 900
    · have e1 : decide ((b.length : Int) > 900) = true := decide_eq_true hb
      simp (maxSteps := 2000000) -implicitDefEqProofs (disch := (refine id_ok ?_; first | assumption | omega | (simp only [go_sem, List.size_toArray, List.length_map, List.length_append, List.length_take, List.length_drop, List.length_cons, List.length_nil, mrLL_app, keyD_i, keyD_s, keyD_b, Nat.reduceAdd, Nat.reduceEqDiff, Nat.reduceLeDiff] <;> omega) | with_unfolding_all rfl | decide)) only [go_sem, Nat.reduceAdd, Nat.reduceSub, Nat.reduceMul, Nat.reduceLeDiff, Nat.reduceEqDiff, Nat.reduceBEq, reduceIte, reduceCtorEq, c_regencylaw12_ReplyBack, encR, List.length_map, h1, h2, e1]
    have e1 : decide ((b.length : Int) > 900) = false := decide_eq_false hb
    have ho : okR r := ⟨by omega, by omega, ho⟩
    have h3 := rigR_run ho.1 ho.2.1 ho.2.2
    have h4 := bytR_run ho
    have hni : ∀ e, isnilV .ifc true (fT repl 10 (er e)) = some (.bool true) := fun e => rfl
    have hfs : ∀ e, (fT repl 10 (er e)).sh = fT repl 10 (er e) := fun e => by cases e <;> rfl
    have p1 := fun h => parR_run (b := b) (h := h) (by omega)
    have hs := samR_run (a := r) (b := r) (h := []) (by omega) (by omega)
    rw [samR_self] at hs
    have hz : encR zeroR = [.int .i64 0, .int .i64 0, .sl .sh [], .str ⟨#[]⟩, .sl .sh [], .sl .sh []] := rfl
    cases hr : rigR r with
    | false =>
      rw [hr] at h3
      simp only [encR] at h3
      cases hp : parR b with
      | none =>
        rw [repRes_none hp, hz] at p1
        simp (maxSteps := 4000000) -implicitDefEqProofs (disch := (refine id_ok ?_; first | assumption | omega | (simp only [go_sem, List.size_toArray, List.length_map, List.length_append, List.length_take, List.length_drop, List.length_cons, List.length_nil, mrLL_app, keyD_i, keyD_s, keyD_b, Nat.reduceAdd, Nat.reduceEqDiff, Nat.reduceLeDiff] <;> omega) | with_unfolding_all rfl | decide)) only [go_sem, Nat.reduceAdd, Nat.reduceSub, Nat.reduceMul, Nat.reduceLeDiff, Nat.reduceEqDiff, Nat.reduceBEq, reduceIte, reduceCtorEq, c_regencylaw12_ReplyBack, encR, List.length_map, h1, h2, e1, h3, p1, hni, hfs]
      | some x =>
        rw [repRes_some hp] at p1
        obtain ⟨q1, q2⟩ := parR_inv hp
        have h5 := bytR_run (okR_of q1)
        rw [show bytR x = byR x by unfold bytR; rw [if_pos q1], q2] at h5
        simp only [encR] at h5 p1
        have e2 := bl_dec b b
        simp only [decide_true] at e2
        simp (maxSteps := 4000000) -implicitDefEqProofs (disch := (refine id_ok ?_; first | assumption | omega | (simp only [go_sem, List.size_toArray, List.length_map, List.length_append, List.length_take, List.length_drop, List.length_cons, List.length_nil, mrLL_app, keyD_i, keyD_s, keyD_b, Nat.reduceAdd, Nat.reduceEqDiff, Nat.reduceLeDiff] <;> omega) | with_unfolding_all rfl | decide)) only [go_sem, Nat.reduceAdd, Nat.reduceSub, Nat.reduceMul, Nat.reduceLeDiff, Nat.reduceEqDiff, Nat.reduceBEq, reduceIte, reduceCtorEq, c_regencylaw12_ReplyBack, encR, List.length_map, h1, h2, e1, h3, p1, h5, e2]
    | true =>
      rw [hr] at h3
      have hl := bytR_len r
      have hbr : bytR r = byR r := by unfold bytR; rw [if_pos hr]
      have p2 := fun h => parR_run (b := byR r) (h := h) (by rw [← hbr]; omega)
      rw [repRes_some (parR_put hr)] at p2
      rw [hbr] at h4
      simp only [encR] at h3 h4 hs p2
      cases hp : parR b with
      | none =>
        rw [repRes_none hp, hz] at p1
        simp (maxSteps := 4000000) -implicitDefEqProofs (disch := (refine id_ok ?_; first | assumption | omega | (simp only [go_sem, List.size_toArray, List.length_map, List.length_append, List.length_take, List.length_drop, List.length_cons, List.length_nil, mrLL_app, keyD_i, keyD_s, keyD_b, Nat.reduceAdd, Nat.reduceEqDiff, Nat.reduceLeDiff] <;> omega) | with_unfolding_all rfl | decide)) only [go_sem, Nat.reduceAdd, Nat.reduceSub, Nat.reduceMul, Nat.reduceLeDiff, Nat.reduceEqDiff, Nat.reduceBEq, reduceIte, reduceCtorEq, c_regencylaw12_ReplyBack, encR, List.length_map, h1, h2, e1, h3, h4, p2, hs, p1, hni, hfs]
      | some x =>
        rw [repRes_some hp] at p1
        obtain ⟨q1, q2⟩ := parR_inv hp
        have h5 := bytR_run (okR_of q1)
        rw [show bytR x = byR x by unfold bytR; rw [if_pos q1], q2] at h5
        simp only [encR] at h5 p1
        have e2 := bl_dec b b
        simp only [decide_true] at e2
        simp (maxSteps := 4000000) -implicitDefEqProofs (disch := (refine id_ok ?_; first | assumption | omega | (simp only [go_sem, List.size_toArray, List.length_map, List.length_append, List.length_take, List.length_drop, List.length_cons, List.length_nil, mrLL_app, keyD_i, keyD_s, keyD_b, Nat.reduceAdd, Nat.reduceEqDiff, Nat.reduceLeDiff] <;> omega) | with_unfolding_all rfl | decide)) only [go_sem, Nat.reduceAdd, Nat.reduceSub, Nat.reduceMul, Nat.reduceLeDiff, Nat.reduceEqDiff, Nat.reduceBEq, reduceIte, reduceCtorEq, c_regencylaw12_ReplyBack, encR, List.length_map, h1, h2, e1, h3, h4, p2, hs, p1, h5, e2]
end Go.Proofs.YtjeigcnaalleiaaGreatDoor.L
