/- Chunks: the heap. -/
import Derived.Test.YtgmhbncbmpahjaaL12
set_option linter.all false
set_option maxRecDepth 100000
namespace Go.Proofs.Ytgmhbncbmpahjaa.L
open Go.Proofs.Ytgmhbncbmpahjaa.M Go.Proofs.Ytgmhbncbmpahjaa.F Go.Proofs

def enE (p : Int × List UInt8) : AV × AV := (.int .i64 p.1, .sl .sh (p.2.map encB))
def fnd (i : Int) : List (Int × List UInt8) → Nat → Option (Nat × List UInt8)
  | [], _ => none
  | p :: es, k => if i = p.1 then some (k, p.2) else fnd i es (k + 1)
def encF (p : Nat × List UInt8) : Nat × AV := (p.1, .sl .sh (p.2.map encB))
theorem findA_en (i : Int) : ∀ (es : List (Int × List UInt8)) (k : Nat), findA (.int .i64 i) (es.map enE) k = some ((fnd i es k).map encF)
  | [], k => rfl
  | p :: es, k => by
    simp only [List.map_cons, findA, enE, eqK, if_true, fnd]
    by_cases h : i = p.1
    · have : (i == p.1) = true := by simp [h]
      rw [this, if_pos h]; rfl
    · have : (i == p.1) = false := by simp [h]
      rw [this, if_neg h]
      exact findA_en i es (k + 1)
def putE (i : Int) (c : List UInt8) (es : List (Int × List UInt8)) : List (Int × List UInt8) := match fnd i es 0 with | some p => es.set p.1 (i, c) | none => es ++ [(i, c)]
theorem mputE_en (i : Int) (c : List UInt8) (es : List (Int × List UInt8)) : mputE (.int .i64 i) (.sl .sh (c.map encB)) (es.map enE) = some ((putE i c es).map enE) := by
  unfold mputE putE
  rw [findA_en]
  cases fnd i es 0 with
  | none => simp [enE]
  | some p => simp [encF, enE, List.map_set]

/-- A heap of chunks: its struct in box p, its map in box m. -/
def heapAt (h : AH) (p m : Nat) (l s d : Int) (es : List (Int × List UInt8)) : Prop := h[p]? = some (.cells [.int .i64 l, .int .i64 s, .int .i64 d, .mp m]) ∧ h[m]? = some (.amap (es.map enE))

theorem new_yes {l s d : Int} {h : AH} (hr : rightP l s d) : run T 5 [.agg (hd l s d)] h = some (.tup [.box (h.length + 2) 0, .int .i64 0], h ++ [.cells (hd l s d), .amap [], .cells [.int .i64 l, .int .i64 s, .int .i64 d, .mp (h.length + 1)]]) := by
  have e1 : decide (rightP l s d) = true := decide_eq_true hr
  have h1 := right_run (l := l) (s := s) (d := d) (h := [])
  simp only [hd] at h1
  rw [e1] at h1
  have hl1 : (h ++ [Bx.cells [.int .i64 l, .int .i64 s, .int .i64 d]]).length = h.length + 1 := by simp
  have hl2 : (h ++ [Bx.cells [.int .i64 l, .int .i64 s, .int .i64 d], Bx.amap []]).length = h.length + 2 := by simp
  rw [run_code T_5]
  simp -implicitDefEqProofs (disch := (refine id_ok ?_; first | assumption | omega | (simp only [go_sem, List.size_toArray, List.length_map, List.length_append, List.length_take, List.length_drop, List.length_cons, List.length_nil, mrLL_app, keyD_i, keyD_s, keyD_b, Nat.reduceAdd, Nat.reduceEqDiff, Nat.reduceLeDiff] <;> omega) | with_unfolding_all rfl | decide)) only [go_sem, Nat.reduceAdd, Nat.reduceSub, Nat.reduceMul, Nat.reduceLeDiff, Nat.reduceEqDiff, Nat.reduceBEq, reduceIte, reduceCtorEq, c_chunk_New, h1, hd, hl1, hl2]
  rw [gc_keep (by simp only [AV.mr, mrL]; omega)]
theorem new_no {l s d : Int} {h : AH} (hr : ¬ rightP l s d) : run T 5 [.agg (hd l s d)] h = some (.tup [.nilp, .int .i64 2], h) := by
  have e1 : decide (rightP l s d) = false := decide_eq_false hr
  have h1 := right_run (l := l) (s := s) (d := d) (h := [])
  simp only [hd] at h1
  rw [e1] at h1
  rw [run_code T_5]
  simp -implicitDefEqProofs (disch := (refine id_ok ?_; first | assumption | omega | (simp only [go_sem, List.size_toArray, List.length_map, List.length_append, List.length_take, List.length_drop, List.length_cons, List.length_nil, mrLL_app, keyD_i, keyD_s, keyD_b, Nat.reduceAdd, Nat.reduceEqDiff, Nat.reduceLeDiff] <;> omega) | with_unfolding_all rfl | decide)) only [go_sem, Nat.reduceAdd, Nat.reduceSub, Nat.reduceMul, Nat.reduceLeDiff, Nat.reduceEqDiff, Nat.reduceBEq, reduceIte, reduceCtorEq, c_chunk_New, h1, hd]

theorem missing_run {h : AH} {p m : Nat} {l s d : Int} {es : List (Int × List UInt8)} (hh : heapAt h p m l s d es) (hr : rightP l s d) (hn : es.length ≤ 1000000000000) : run T 8 [.box p 0] h = some (.int .i64 (cnt l s d - es.length), h) := by
  obtain ⟨hp, hm⟩ := hh
  have hb := cnt_bound hr
  rw [← cnt_right hr] at hb
  have hl := hr.2.1
  have h1 := count_run (l := l) (s := s) (d := d) (h := [])
  simp only [hd] at h1
  have e1 : IntKind.i64.wrap (cnt l s d - es.length) = cnt l s d - es.length := w64 (by omega) (by omega)
  rw [run_code T_8]
  simp -implicitDefEqProofs (disch := (refine id_ok ?_; first | assumption | omega | (simp only [go_sem, List.size_toArray, List.length_map, List.length_append, List.length_take, List.length_drop, List.length_cons, List.length_nil, mrLL_app, keyD_i, keyD_s, keyD_b, Nat.reduceAdd, Nat.reduceEqDiff, Nat.reduceLeDiff] <;> omega) | with_unfolding_all rfl | decide)) only [go_sem, Nat.reduceAdd, Nat.reduceSub, Nat.reduceMul, Nat.reduceLeDiff, Nat.reduceEqDiff, Nat.reduceBEq, reduceIte, reduceCtorEq, c_chunk_Heap_Missing, hp, hm, h1, List.length_map, e1]
theorem missing_nil {h : AH} : run T 8 [.nilp] h = some (.int .i64 0, h) := by
  rw [run_code T_8]
  simp -implicitDefEqProofs (disch := (refine id_ok ?_; first | assumption | omega | (simp only [go_sem, List.size_toArray, List.length_map, List.length_append, List.length_take, List.length_drop, List.length_cons, List.length_nil, mrLL_app, keyD_i, keyD_s, keyD_b, Nat.reduceAdd, Nat.reduceEqDiff, Nat.reduceLeDiff] <;> omega) | with_unfolding_all rfl | decide)) only [go_sem, Nat.reduceAdd, Nat.reduceSub, Nat.reduceMul, Nat.reduceLeDiff, Nat.reduceEqDiff, Nat.reduceBEq, reduceIte, reduceCtorEq, c_chunk_Heap_Missing]

theorem bequal_run {a b : List UInt8} {h : AH} : run T 21 [.sl .sh (a.map encB), .sl .sh (b.map encB)] h = some (.bool (decide (a = b)), h) := by
  have e : ((ByteArray.toList ⟨a.toArray⟩) == (ByteArray.toList ⟨b.toArray⟩)) = decide (a = b) := by
    rw [toList_mk, toList_mk]
    by_cases hab : a = b
    · subst hab; simp
    · simp [hab]
  rw [run_code T_21]
  simp -implicitDefEqProofs (disch := (refine id_ok ?_; first | assumption | omega | (simp only [go_sem, List.size_toArray, List.length_map, List.length_append, List.length_take, List.length_drop, List.length_cons, List.length_nil, mrLL_app, keyD_i, keyD_s, keyD_b, Nat.reduceAdd, Nat.reduceEqDiff, Nat.reduceLeDiff] <;> omega) | with_unfolding_all rfl | decide)) only [go_sem, Nat.reduceAdd, Nat.reduceSub, Nat.reduceMul, Nat.reduceLeDiff, Nat.reduceEqDiff, Nat.reduceBEq, reduceIte, reduceCtorEq, c_bytes_Equal, e]

theorem put_nil {i : Int} {x : AV} {h : AH} : run T 7 [.nilp, .int .i64 i, x] h = some (.int .i64 1, h) := by
  rw [run_code T_7]
  simp -implicitDefEqProofs (disch := (refine id_ok ?_; first | assumption | omega | (simp only [go_sem, List.size_toArray, List.length_map, List.length_append, List.length_take, List.length_drop, List.length_cons, List.length_nil, mrLL_app, keyD_i, keyD_s, keyD_b, Nat.reduceAdd, Nat.reduceEqDiff, Nat.reduceLeDiff] <;> omega) | with_unfolding_all rfl | decide)) only [go_sem, Nat.reduceAdd, Nat.reduceSub, Nat.reduceMul, Nat.reduceLeDiff, Nat.reduceEqDiff, Nat.reduceBEq, reduceIte, reduceCtorEq, c_chunk_Heap_Put]

theorem clen_cases (l s d i : Int) : clen l s d i = -1 ∨ 0 ≤ clen l s d i := by
  unfold clen
  by_cases hi : 0 ≤ i ∧ i < cnt l s d
  · rw [if_pos hi]
    obtain ⟨hr, m0, m1, _⟩ := mul_bounds hi
    have := hr.2.2.1.1
    right; omega
  · rw [if_neg hi]; exact .inl rfl

/-- What a put answers. -/
def putR (l s d i : Int) (c : List UInt8) (es : List (Int × List UInt8)) : Int :=
  if clen l s d i < 0 then 37 else if (c.length : Int) ≠ clen l s d i then 13 else match fnd i es 0 with | some p => if p.2 = c then 0 else 41 | none => 0

theorem put_run {h : AH} {p m : Nat} {l s d i : Int} {c : List UInt8} {es : List (Int × List UInt8)} (hh : heapAt h p m l s d es) (hc : c.length < 140737488350000) :
    run T 7 [.box p 0, .int .i64 i, .sl .sh (c.map encB)] h = some (.int .i64 (putR l s d i c es), if putR l s d i c es = 0 then h.set m (.amap ((putE i c es).map enE)) else h) := by
  obtain ⟨hp, hm⟩ := hh
  have h1 := length_run (l := l) (s := s) (d := d) (i := i) (h := [])
  simp only [hd] at h1
  have hfa := findA_en i es 0
  have h2 := clone_run (l := c) (h := []) (by omega)
  have h3 := mputE_en i c es
  rw [run_code T_7]
  by_cases hk : clen l s d i < 0
  · have e1 : decide (clen l s d i < 0) = true := decide_eq_true hk
    have hr : putR l s d i c es = 37 := by rw [putR, if_pos hk]
    rw [hr]
    cases hf : fnd i es 0 with
    | none => rw [hf, Option.map_none] at hfa; simp -implicitDefEqProofs (disch := (refine id_ok ?_; first | assumption | omega | (simp only [go_sem, List.size_toArray, List.length_map, List.length_append, List.length_take, List.length_drop, List.length_cons, List.length_nil, mrLL_app, keyD_i, keyD_s, keyD_b, Nat.reduceAdd, Nat.reduceEqDiff, Nat.reduceLeDiff] <;> omega) | with_unfolding_all rfl | decide)) only [go_sem, Nat.reduceAdd, Nat.reduceSub, Nat.reduceMul, Nat.reduceLeDiff, Nat.reduceEqDiff, Nat.reduceBEq, reduceIte, reduceCtorEq, c_chunk_Heap_Put, hp, hm, h1, hfa, e1]; try rfl
    | some q => rw [hf, Option.map_some] at hfa; simp -implicitDefEqProofs (disch := (refine id_ok ?_; first | assumption | omega | (simp only [go_sem, List.size_toArray, List.length_map, List.length_append, List.length_take, List.length_drop, List.length_cons, List.length_nil, mrLL_app, keyD_i, keyD_s, keyD_b, Nat.reduceAdd, Nat.reduceEqDiff, Nat.reduceLeDiff] <;> omega) | with_unfolding_all rfl | decide)) only [go_sem, Nat.reduceAdd, Nat.reduceSub, Nat.reduceMul, Nat.reduceLeDiff, Nat.reduceEqDiff, Nat.reduceBEq, reduceIte, reduceCtorEq, c_chunk_Heap_Put, hp, hm, h1, hfa, encF, e1]; try rfl
  · have e1 : decide (clen l s d i < 0) = false := decide_eq_false hk
    by_cases hl : (c.length : Int) = clen l s d i
    · have e2 : ((c.length : Int) != clen l s d i) = false := by simp [hl]
      cases hf : fnd i es 0 with
      | none =>
        have hr : putR l s d i c es = 0 := by rw [putR, if_neg hk, if_neg (by simpa using hl), hf]
        rw [hr]
        rw [hf, Option.map_none] at hfa
        simp -implicitDefEqProofs (disch := (refine id_ok ?_; first | assumption | omega | (simp only [go_sem, List.size_toArray, List.length_map, List.length_append, List.length_take, List.length_drop, List.length_cons, List.length_nil, mrLL_app, keyD_i, keyD_s, keyD_b, Nat.reduceAdd, Nat.reduceEqDiff, Nat.reduceLeDiff] <;> omega) | with_unfolding_all rfl | decide)) only [go_sem, Nat.reduceAdd, Nat.reduceSub, Nat.reduceMul, Nat.reduceLeDiff, Nat.reduceEqDiff, Nat.reduceBEq, reduceIte, reduceCtorEq, c_chunk_Heap_Put, hp, hm, h1, hfa, e1, List.length_map, e2, h2, h3]
        try rfl
      | some q =>
        rw [hf, Option.map_some] at hfa
        have h4 := bequal_run (a := q.2) (b := c) (h := [])
        by_cases hq : q.2 = c
        · have hr : putR l s d i c es = 0 := by rw [putR, if_neg hk, if_neg (by simpa using hl), hf]; simp [hq]
          rw [hr]
          rw [decide_eq_true hq] at h4
          simp -implicitDefEqProofs (disch := (refine id_ok ?_; first | assumption | omega | (simp only [go_sem, List.size_toArray, List.length_map, List.length_append, List.length_take, List.length_drop, List.length_cons, List.length_nil, mrLL_app, keyD_i, keyD_s, keyD_b, Nat.reduceAdd, Nat.reduceEqDiff, Nat.reduceLeDiff] <;> omega) | with_unfolding_all rfl | decide)) only [go_sem, Nat.reduceAdd, Nat.reduceSub, Nat.reduceMul, Nat.reduceLeDiff, Nat.reduceEqDiff, Nat.reduceBEq, reduceIte, reduceCtorEq, c_chunk_Heap_Put, hp, hm, h1, hfa, encF, e1, List.length_map, e2, h2, h3, h4]
          try rfl
        · have hr : putR l s d i c es = 41 := by rw [putR, if_neg hk, if_neg (by simpa using hl), hf]; simp [hq]
          rw [hr]
          rw [decide_eq_false hq] at h4
          simp -implicitDefEqProofs (disch := (refine id_ok ?_; first | assumption | omega | (simp only [go_sem, List.size_toArray, List.length_map, List.length_append, List.length_take, List.length_drop, List.length_cons, List.length_nil, mrLL_app, keyD_i, keyD_s, keyD_b, Nat.reduceAdd, Nat.reduceEqDiff, Nat.reduceLeDiff] <;> omega) | with_unfolding_all rfl | decide)) only [go_sem, Nat.reduceAdd, Nat.reduceSub, Nat.reduceMul, Nat.reduceLeDiff, Nat.reduceEqDiff, Nat.reduceBEq, reduceIte, reduceCtorEq, c_chunk_Heap_Put, hp, hm, h1, hfa, encF, e1, List.length_map, e2, h2, h3, h4]
          try rfl
    · have e2 : ((c.length : Int) != clen l s d i) = true := by simp [hl]
      have hr : putR l s d i c es = 13 := by rw [putR, if_neg hk, if_pos hl]
      rw [hr]
      cases hf : fnd i es 0 with
      | none => rw [hf, Option.map_none] at hfa; simp -implicitDefEqProofs (disch := (refine id_ok ?_; first | assumption | omega | (simp only [go_sem, List.size_toArray, List.length_map, List.length_append, List.length_take, List.length_drop, List.length_cons, List.length_nil, mrLL_app, keyD_i, keyD_s, keyD_b, Nat.reduceAdd, Nat.reduceEqDiff, Nat.reduceLeDiff] <;> omega) | with_unfolding_all rfl | decide)) only [go_sem, Nat.reduceAdd, Nat.reduceSub, Nat.reduceMul, Nat.reduceLeDiff, Nat.reduceEqDiff, Nat.reduceBEq, reduceIte, reduceCtorEq, c_chunk_Heap_Put, hp, hm, h1, hfa, e1, List.length_map, e2]; try rfl
      | some q => rw [hf, Option.map_some] at hfa; simp -implicitDefEqProofs (disch := (refine id_ok ?_; first | assumption | omega | (simp only [go_sem, List.size_toArray, List.length_map, List.length_append, List.length_take, List.length_drop, List.length_cons, List.length_nil, mrLL_app, keyD_i, keyD_s, keyD_b, Nat.reduceAdd, Nat.reduceEqDiff, Nat.reduceLeDiff] <;> omega) | with_unfolding_all rfl | decide)) only [go_sem, Nat.reduceAdd, Nat.reduceSub, Nat.reduceMul, Nat.reduceLeDiff, Nat.reduceEqDiff, Nat.reduceBEq, reduceIte, reduceCtorEq, c_chunk_Heap_Put, hp, hm, h1, hfa, encF, e1, List.length_map, e2]; try rfl
end Go.Proofs.Ytgmhbncbmpahjaa.L
