/- ChunkHeaps: the law. -/
import Derived.Test.YtgmhbncbmpahjaaL94
set_option linter.all false
set_option maxRecDepth 100000
namespace Go.Proofs.Ytgmhbncbmpahjaa.L
open Go.Proofs.Ytgmhbncbmpahjaa.M Go.Proofs.Ytgmhbncbmpahjaa.F Go.Proofs Go.RowKit

def finQ (cf : CFn) (e : Ex) (σ : List AV) (h : AH) : Prop := e.fin ∧ ∃ vs, retV h cf.res σ = some vs ∧ ((oneOf vs).mr ≤ ([] : AH).length ∧ ([] : AH).length ≤ h.length ∧ gcOK [] h ∧ (oneOf vs = .bool true ∧ h.take ([] : AH).length = []))
theorem finQ_of {cf : CFn} {e : Ex} {σ : List AV} {h : AH} (he : e.fin) (h1 : retV h cf.res σ = some [.bool true]) : finQ cf e σ h :=
  ⟨he, _, h1, by simp [oneOf, AV.mr], by simp, fun i hi => absurd hi (by simp), rfl, rfl⟩
theorem W_pre5 {T : Tbl} {P : Program} (hT : ∀ f d, T f = some d → OkDef P f d) {a1 a2 a3 a4 a5 b : CC} {σ : List AV} {h : AH} {Q : Ex → List AV → AH → Prop} (hd : dv T (.seq a1 (.seq a2 (.seq a3 (.seq a4 a5)))) σ h (Kq P b Q)) :
    M.W P (.seq a1 (.seq a2 (.seq a3 (.seq a4 (.seq a5 b))))) σ h Q := by
  have := W_pre hT hd
  simp only [M.W] at this ⊢
  exact this
theorem next_nil {i : Int} {h : AH} : run T 9 [.nilp, .int .i64 i] h = some (.int .i64 (-1), h) := by
  have h1 := missing_nil (h := h)
  rw [run_code T_9]
  simp -implicitDefEqProofs (disch := (refine id_ok ?_; first | assumption | omega | (simp only [go_sem, List.size_toArray, List.length_map, List.length_append, List.length_take, List.length_drop, List.length_cons, List.length_nil, mrLL_app, keyD_i, keyD_s, keyD_b, Nat.reduceAdd, Nat.reduceEqDiff, Nat.reduceLeDiff] <;> omega) | with_unfolding_all rfl | decide)) only [go_sem, Nat.reduceAdd, Nat.reduceSub, Nat.reduceMul, Nat.reduceLeDiff, Nat.reduceEqDiff, Nat.reduceBEq, reduceIte, reduceCtorEq, c_chunk_Heap_Next, h1, show ((0 : Int) == 0) = true from rfl]
theorem new_step {l s d : Int} {n : Nat} {σ : List AV} {h : AH} {rest : CC} {Q : Ex → List AV → AH → Prop} (h4 : σ.getD 4 undefA = .box 0 0) (hl : σ.length = 158) (hh : h[0]? = some (.cells [.int .i64 l, .int .i64 s, .int .i64 d]))
    (hn : (n : Int) = cnt l s d) (hn5 : n ≤ 5000) (hk : ∀ v, M.W Try.prog rest (((σ.set 62 (.agg (hd l s d))).set 63 (.box (h.length + 3) 0)).set 9 (.box (h.length + 3) 0)) (newH l s d n h v) Q) :
    M.W Try.prog (.seq (.region [⟨some 62, .load (some 3) (.tmp 4), none⟩, ⟨some 63, .call 10 [(.tmp 62)], none⟩, ⟨some 9, .mov (.tmp 63), none⟩]) rest) σ h Q := by
  have h1 : dops T [⟨some 62, .load (some 3) (.tmp 4), none⟩] σ h = some (σ.set 62 (.agg (hd l s d)), h) := by
    simp -implicitDefEqProofs (disch := (refine id_ok ?_; first | assumption | omega | (simp only [go_sem, List.size_toArray, List.length_map, List.length_append, List.length_take, List.length_drop, List.length_cons, List.length_nil, mrLL_app, keyD_i, keyD_s, keyD_b, Nat.reduceAdd, Nat.reduceEqDiff, Nat.reduceLeDiff] <;> omega) | with_unfolding_all rfl | decide)) only [go_sem, Nat.reduceAdd, Nat.reduceSub, Nat.reduceMul, Nat.reduceLeDiff, Nat.reduceEqDiff, Nat.reduceBEq, reduceIte, reduceCtorEq, h4, hh, hd]
  show M.W Try.prog (.region [⟨some 62, .load (some 3) (.tmp 4), none⟩, ⟨some 63, .call 10 [(.tmp 62)], none⟩, ⟨some 9, .mov (.tmp 63), none⟩]) σ h (fun e σ' h' => match e with | .normal => M.W Try.prog rest σ' h' Q | .exit i => Q (.exit i) σ' h' | .ret => Q .ret σ' h')
  refine W_call okT (l := [⟨some 62, .load (some 3) (.tmp 4), none⟩]) (r := [⟨some 9, .mov (.tmp 63), none⟩]) (d := 63) (f := 10) (xs := [.tmp 62]) h1 ?_
  have e1 : shL ([Opd.tmp 62].map (evalO (σ.set 62 (.agg (hd l s d))))) = [.agg (hd l s d)] := by
    have : (σ.set 62 (AV.agg (hd l s d))).getD 62 undefA = .agg (hd l s d) := by simp [List.getD, hl]
    simp only [List.map_cons, List.map_nil, evalO, this]
    rfl
  rw [e1]
  refine (rnew_call hn hn5).mono ?_
  rintro r h2 ⟨rfl, v, rfl⟩
  refine ⟨(((σ.set 62 (.agg (hd l s d))).set 63 (.box (h.length + 3) 0)).set 9 (.box (h.length + 3) 0), newH l s d n h v), ?_, hk v⟩
  have e2 : ((σ.set 62 (AV.agg (hd l s d))).set 63 (.box (h.length + 3) 0)).getD 63 undefA = .box (h.length + 3) 0 := by simp [List.getD, hl]
  simp -implicitDefEqProofs (disch := (refine id_ok ?_; first | assumption | omega | (simp only [go_sem, List.size_toArray, List.length_map, List.length_append, List.length_take, List.length_drop, List.length_cons, List.length_nil, mrLL_app, keyD_i, keyD_s, keyD_b, Nat.reduceAdd, Nat.reduceEqDiff, Nat.reduceLeDiff] <;> omega) | with_unfolding_all rfl | decide)) only [go_sem, Nat.reduceAdd, Nat.reduceSub, Nat.reduceMul, Nat.reduceLeDiff, Nat.reduceEqDiff, Nat.reduceBEq, reduceIte, reduceCtorEq, e2]
set_option maxHeartbeats 32000000 in
theorem heaps_call {B : List UInt8} {l s d : Int} {ops : List Op3} : CallW Try.prog 3 [.sl .sh (B.map encB), .agg (hd l s d), .sl .sh (ops.map encO3)] [] (fun r h => r = .bool true ∧ h = []) := by
  refine CallW_gc (call_of_body is_regencylaw19_ChunkHeaps ?_ ⟨.bool true, [], by simp [AV.mr], by simp, fun i hi => absurd hi (by simp), rfl, rfl⟩)
  show M.W Try.prog c_regencylaw19_ChunkHeaps.body _ [] (finQ c_regencylaw19_ChunkHeaps)
  refine W_pre5 okT ?_
  by_cases g1 : (B.length : Int) > 2000
  · have d1 : decide ((B.length : Int) > 2000) = true := decide_eq_true g1
    simp (maxSteps := 8000000) -implicitDefEqProofs (disch := (refine id_ok ?_; first | assumption | omega | (simp only [go_sem, List.size_toArray, List.length_map, List.length_append, List.length_take, List.length_drop, List.length_cons, List.length_nil, mrLL_app, keyD_i, keyD_s, keyD_b, Nat.reduceAdd, Nat.reduceEqDiff, Nat.reduceLeDiff] <;> omega) | with_unfolding_all rfl | decide)) only [go_sem, Nat.reduceAdd, Nat.reduceSub, Nat.reduceMul, Nat.reduceLeDiff, Nat.reduceEqDiff, Nat.reduceBEq, reduceIte, reduceCtorEq, c_regencylaw19_ChunkHeaps, hd, first19, List.length_map, d1]
    exact finQ_of trivial rfl
  have d1 : decide ((B.length : Int) > 2000) = false := decide_eq_false g1
  by_cases g2 : l > 5000 ∧ l ≤ 1073741824
  · have d2 : decide (l > 5000) = true := decide_eq_true g2.1
    have d3 : decide (l ≤ 1073741824) = true := decide_eq_true g2.2
    simp (maxSteps := 8000000) -implicitDefEqProofs (disch := (refine id_ok ?_; first | assumption | omega | (simp only [go_sem, List.size_toArray, List.length_map, List.length_append, List.length_take, List.length_drop, List.length_cons, List.length_nil, mrLL_app, keyD_i, keyD_s, keyD_b, Nat.reduceAdd, Nat.reduceEqDiff, Nat.reduceLeDiff] <;> omega) | with_unfolding_all rfl | decide)) only [go_sem, Nat.reduceAdd, Nat.reduceSub, Nat.reduceMul, Nat.reduceLeDiff, Nat.reduceEqDiff, Nat.reduceBEq, reduceIte, reduceCtorEq, c_regencylaw19_ChunkHeaps, hd, first19, List.length_map, d1, d2, d3]
    exact finQ_of trivial rfl
  have hg : (decide (l > 5000) = false) ∨ (decide (l > 5000) = true ∧ decide (l ≤ 1073741824) = false) := by
    by_cases q : l > 5000
    · exact .inr ⟨decide_eq_true q, decide_eq_false fun z => g2 ⟨q, z⟩⟩
    · exact .inl (decide_eq_false q)
  have r1 := fun h => rright_run (l := l) (s := s) (d := d) (h := h)
  simp only [hd] at r1
  by_cases hr : rightP l s d
  · have hr' : decide (rightP l s d) = true := decide_eq_true hr
    rw [hr'] at r1
    have n1 := new_yes (h := [Bx.cells [.int .i64 l, .int .i64 s, .int .i64 d]]) hr
    simp only [hd, List.length_cons, List.length_nil, List.cons_append, List.nil_append, Nat.zero_add, Nat.reduceAdd] at n1
    have hcb := cnt_bound hr
    rw [← cnt_right hr] at hcb
    have hl5 : l ≤ 5000 := by
      have := hr.2.1
      by_cases q : l > 5000
      · exact absurd ⟨q, by omega⟩ g2
      · omega
    obtain ⟨n, hn⟩ : ∃ n : Nat, (n : Int) = cnt l s d := ⟨(cnt l s d).toNat, by omega⟩
    have d2 : decide (l > 5000) = false := decide_eq_false (by omega)
    simp (maxSteps := 8000000) -implicitDefEqProofs (disch := (refine id_ok ?_; first | assumption | omega | (simp only [go_sem, List.size_toArray, List.length_map, List.length_append, List.length_take, List.length_drop, List.length_cons, List.length_nil, mrLL_app, keyD_i, keyD_s, keyD_b, Nat.reduceAdd, Nat.reduceEqDiff, Nat.reduceLeDiff] <;> omega) | with_unfolding_all rfl | decide)) only [go_sem, Nat.reduceAdd, Nat.reduceSub, Nat.reduceMul, Nat.reduceLeDiff, Nat.reduceEqDiff, Nat.reduceBEq, reduceIte, reduceCtorEq, c_regencylaw19_ChunkHeaps, hd, first19, List.length_map, d1, d2, r1, n1]
    refine new_step rfl rfl rfl hn (by omega) fun v => ?_
    refine dv_sound okT _ _ _ _ _ (fun _ _ _ z => z) ?_
    have hz : ∀ x ∈ List.replicate n ([] : List UInt8), x.length ≤ 512 := fun x hx => by rw [(List.mem_replicate.1 hx).2]; simp
    cases v with
    | true =>
      have G : Good l s d n 5 6 (newH l s d n [Bx.cells [.int .i64 l, .int .i64 s, .int .i64 d], Bx.cells [.int .i64 l, .int .i64 s, .int .i64 d], Bx.amap [], Bx.cells [.int .i64 l, .int .i64 s, .int .i64 d, .mp 2]] true) [] (List.replicate n false) (List.replicate n []) :=
        ⟨rfl, ⟨rfl, rfl⟩, ⟨rfl, rfl, rfl, by simp, by simp⟩, rel_new n, hz, by simp [newH]⟩
      obtain ⟨e, σ', h', hden, hcase⟩ := hp_loop (B := B) (ops := ops) (by omega) (.inl ⟨rfl, rfl⟩) hr hn (by omega) ops.length 0 _ _ _ _ (by omega) G
      simp only [show ((0 : Nat) : Int) = 0 from rfl] at hden
      rcases hcase with ⟨rfl, rfl⟩ | ⟨rfl, h6⟩
      · simp (maxSteps := 8000000) -implicitDefEqProofs (disch := (refine id_ok ?_; first | assumption | omega | (simp only [go_sem, List.size_toArray, List.length_map, List.length_append, List.length_take, List.length_drop, List.length_cons, List.length_nil, mrLL_app, keyD_i, keyD_s, keyD_b, Nat.reduceAdd, Nat.reduceEqDiff, Nat.reduceLeDiff] <;> omega) | with_unfolding_all rfl | decide)) only [go_sem, Nat.reduceAdd, Nat.reduceSub, Nat.reduceMul, Nat.reduceLeDiff, Nat.reduceEqDiff, Nat.reduceBEq, reduceIte, reduceCtorEq, List.length_map, hden]
        exact finQ_of trivial rfl
      · simp (maxSteps := 8000000) -implicitDefEqProofs (disch := (refine id_ok ?_; first | assumption | omega | (simp only [go_sem, List.size_toArray, List.length_map, List.length_append, List.length_take, List.length_drop, List.length_cons, List.length_nil, mrLL_app, keyD_i, keyD_s, keyD_b, Nat.reduceAdd, Nat.reduceEqDiff, Nat.reduceLeDiff] <;> omega) | with_unfolding_all rfl | decide)) only [go_sem, Nat.reduceAdd, Nat.reduceSub, Nat.reduceMul, Nat.reduceLeDiff, Nat.reduceEqDiff, Nat.reduceBEq, reduceIte, reduceCtorEq, List.length_map, hden]
        rw [List.getD_eq_getElem?_getD] at h6
        exact finQ_of trivial (by simp [retV, h6])
    | false =>
      have G : Good l s d n 6 5 (newH l s d n [Bx.cells [.int .i64 l, .int .i64 s, .int .i64 d], Bx.cells [.int .i64 l, .int .i64 s, .int .i64 d], Bx.amap [], Bx.cells [.int .i64 l, .int .i64 s, .int .i64 d, .mp 2]] false) [] (List.replicate n false) (List.replicate n []) :=
        ⟨rfl, ⟨rfl, rfl⟩, ⟨rfl, rfl, rfl, by simp, by simp⟩, rel_new n, hz, by simp [newH]⟩
      obtain ⟨e, σ', h', hden, hcase⟩ := hp_loop (B := B) (ops := ops) (by omega) (.inr ⟨rfl, rfl⟩) hr hn (by omega) ops.length 0 _ _ _ _ (by omega) G
      simp only [show ((0 : Nat) : Int) = 0 from rfl] at hden
      rcases hcase with ⟨rfl, rfl⟩ | ⟨rfl, h6⟩
      · simp (maxSteps := 8000000) -implicitDefEqProofs (disch := (refine id_ok ?_; first | assumption | omega | (simp only [go_sem, List.size_toArray, List.length_map, List.length_append, List.length_take, List.length_drop, List.length_cons, List.length_nil, mrLL_app, keyD_i, keyD_s, keyD_b, Nat.reduceAdd, Nat.reduceEqDiff, Nat.reduceLeDiff] <;> omega) | with_unfolding_all rfl | decide)) only [go_sem, Nat.reduceAdd, Nat.reduceSub, Nat.reduceMul, Nat.reduceLeDiff, Nat.reduceEqDiff, Nat.reduceBEq, reduceIte, reduceCtorEq, List.length_map, hden]
        exact finQ_of trivial rfl
      · simp (maxSteps := 8000000) -implicitDefEqProofs (disch := (refine id_ok ?_; first | assumption | omega | (simp only [go_sem, List.size_toArray, List.length_map, List.length_append, List.length_take, List.length_drop, List.length_cons, List.length_nil, mrLL_app, keyD_i, keyD_s, keyD_b, Nat.reduceAdd, Nat.reduceEqDiff, Nat.reduceLeDiff] <;> omega) | with_unfolding_all rfl | decide)) only [go_sem, Nat.reduceAdd, Nat.reduceSub, Nat.reduceMul, Nat.reduceLeDiff, Nat.reduceEqDiff, Nat.reduceBEq, reduceIte, reduceCtorEq, List.length_map, hden]
        rw [List.getD_eq_getElem?_getD] at h6
        exact finQ_of trivial (by simp [retV, h6])
  · have hr' : decide (rightP l s d) = false := decide_eq_false hr
    rw [hr'] at r1
    have n1 := new_no (h := [Bx.cells [.int .i64 l, .int .i64 s, .int .i64 d]]) hr
    simp only [hd] at n1
    have p1 := fun x h => put_nil (i := 0) (x := x) (h := h)
    have p2 := fun h => missing_nil (h := h)
    have p3 := fun h => next_nil (i := 0) (h := h)
    have z1 : ((2 : Int) == 2) = true := rfl
    have z2 : ((1 : Int) == 1) = true := rfl
    have z3 : ((0 : Int) == 0) = true := rfl
    have z4 : ((-1 : Int) == -1) = true := rfl
    rcases hg with d2 | ⟨d2, d3⟩
    · simp (maxSteps := 8000000) -implicitDefEqProofs (disch := (refine id_ok ?_; first | assumption | omega | (simp only [go_sem, List.size_toArray, List.length_map, List.length_append, List.length_take, List.length_drop, List.length_cons, List.length_nil, mrLL_app, keyD_i, keyD_s, keyD_b, Nat.reduceAdd, Nat.reduceEqDiff, Nat.reduceLeDiff] <;> omega) | with_unfolding_all rfl | decide)) only [go_sem, Nat.reduceAdd, Nat.reduceSub, Nat.reduceMul, Nat.reduceLeDiff, Nat.reduceEqDiff, Nat.reduceBEq, reduceIte, reduceCtorEq, c_regencylaw19_ChunkHeaps, hd, first19, List.length_map, d1, d2, r1, n1, p1, p2, p3, z1, z2, z3, z4]
      exact finQ_of trivial rfl
    · simp (maxSteps := 8000000) -implicitDefEqProofs (disch := (refine id_ok ?_; first | assumption | omega | (simp only [go_sem, List.size_toArray, List.length_map, List.length_append, List.length_take, List.length_drop, List.length_cons, List.length_nil, mrLL_app, keyD_i, keyD_s, keyD_b, Nat.reduceAdd, Nat.reduceEqDiff, Nat.reduceLeDiff] <;> omega) | with_unfolding_all rfl | decide)) only [go_sem, Nat.reduceAdd, Nat.reduceSub, Nat.reduceMul, Nat.reduceLeDiff, Nat.reduceEqDiff, Nat.reduceBEq, reduceIte, reduceCtorEq, c_regencylaw19_ChunkHeaps, hd, first19, List.length_map, d1, d2, d3, r1, n1, p1, p2, p3, z1, z2, z3, z4]
      exact finQ_of trivial rfl
theorem callW_calls {P : Program} {w : World} {f : FuncId} {args : List AV} {b : Bool} (hc : CallW P f args [] (fun r h => r = .bool b ∧ h = [])) {vs : List Value} (hv : VL (gW w) args vs) (hcl : clL args = true) (hw : GW w) (hg : Gl (gW w)) :
    Calls P f vs.toArray w fun e w' => e = .returned (.bool b) ∧ Below w.heap.size w w' := by
  refine (hc.2.1 w (gW w) _ w vs hv hcl (Inv.start w hw hg)).mono ?_
  rintro e w' ⟨g', r, u, h', rfl, ⟨rfl, rfl⟩, _, _, hvr, _, hinv⟩
  simp only [VR] at hvr
  subst hvr
  exact ⟨rfl, hinv.below⟩
end Go.Proofs.Ytgmhbncbmpahjaa.L
