/- Chunks: what must hold first. -/
import Derived.Test.YtgmhbncbmpahjaaL13
set_option linter.all false
set_option maxRecDepth 100000
namespace Go.Proofs.Ytgmhbncbmpahjaa.L
open Go.Proofs.Ytgmhbncbmpahjaa.M Go.Proofs.Ytgmhbncbmpahjaa.F Go.Proofs

theorem bytes_missing {h : AH} {p m : Nat} {l s d : Int} {es : List (Int × List UInt8)} (hh : heapAt h p m l s d es) (hr : rightP l s d) (hn : es.length ≤ 1000000000000) (hm : 0 < cnt l s d - es.length) :
    run T 13 [.box p 0] h = some (.tup [ow [], .int .i64 41], h) := by
  have h1 := missing_run hh hr hn
  have e1 : decide (0 < cnt l s d - (es.length : Int)) = true := decide_eq_true hm
  rw [run_code T_13]
  simp -implicitDefEqProofs (disch := (refine id_ok ?_; first | assumption | omega | (simp only [go_sem, List.size_toArray, List.length_map, List.length_append, List.length_take, List.length_drop, List.length_cons, List.length_nil, mrLL_app, keyD_i, keyD_s, keyD_b, Nat.reduceAdd, Nat.reduceEqDiff, Nat.reduceLeDiff] <;> omega) | with_unfolding_all rfl | decide)) only [go_sem, Nat.reduceAdd, Nat.reduceSub, Nat.reduceMul, Nat.reduceLeDiff, Nat.reduceEqDiff, Nat.reduceBEq, reduceIte, reduceCtorEq, c_chunk_Heap_Bytes, h1, e1]

/-- The first number that misses, from i on, so many tries. -/
def nxt (es : List (Int × List UInt8)) (n : Int) : Nat → Int → Int
  | 0, _ => -1
  | d + 1, i => match fnd i es 0 with | none => i | some _ => nxt es n d (if i + 1 = n then 0 else i + 1)

theorem next_loop {h : AH} {p m : Nat} {l s d : Int} {es : List (Int × List UInt8)} (hh : heapAt h p m l s d es) {n : Int} (hn : n ≤ 1073741824) : ∀ (t : Nat) (k i : Int), t + k = n → 0 ≤ k → 0 ≤ i → (i < n ∨ t = 0) →
    (nxt es n t i = -1 ∧ den T (.loop l_chunk_Heap_Next_0) (s_chunk_Heap_Next_0 (.box p 0) (.int .i64 i) (.int .i64 n) (.int .i64 n) (.int .i64 k)) h = some (.exit 0, x_chunk_Heap_Next_0, h)) ∨
    ∃ σ, den T (.loop l_chunk_Heap_Next_0) (s_chunk_Heap_Next_0 (.box p 0) (.int .i64 i) (.int .i64 n) (.int .i64 n) (.int .i64 k)) h = some (.ret, σ, h) ∧ σ.getD 4 undefA = .int .i64 (nxt es n t i) := by
  obtain ⟨hp, hm⟩ := hh
  intro t
  induction t with
  | zero =>
    intro k i hk hk0 hi0 hi
    have hd' : decide (k < n) = false := decide_eq_false (by omega)
    refine .inl ⟨rfl, ?_⟩
    rw [lp_round]
    simp -implicitDefEqProofs (disch := (refine id_ok ?_; first | assumption | omega | (simp only [go_sem, List.size_toArray, List.length_map, List.length_append, List.length_take, List.length_drop, List.length_cons, List.length_nil, mrLL_app, keyD_i, keyD_s, keyD_b, Nat.reduceAdd, Nat.reduceEqDiff, Nat.reduceLeDiff] <;> omega) | with_unfolding_all rfl | decide)) only [go_sem, Nat.reduceAdd, Nat.reduceSub, Nat.reduceMul, Nat.reduceLeDiff, Nat.reduceEqDiff, Nat.reduceBEq, reduceIte, reduceCtorEq, hd']
  | succ t ih =>
    intro k i hk hk0 hi0 hi
    have hin : i < n := by omega
    have hd' : decide (k < n) = true := decide_eq_true (by omega)
    have hfa := findA_en i es 0
    have e1 : IntKind.i64.wrap (k + 1) = k + 1 := w64 (by omega) (by omega)
    have e2 : IntKind.i64.wrap (i + 1) = i + 1 := w64 (by omega) (by omega)
    cases hf : fnd i es 0 with
    | none =>
      have hx : nxt es n (t + 1) i = i := by simp only [nxt, hf]
      rw [hf, Option.map_none] at hfa
      right
      rw [lp_round, hx]
      simp -implicitDefEqProofs (disch := (refine id_ok ?_; first | assumption | omega | (simp only [go_sem, List.size_toArray, List.length_map, List.length_append, List.length_take, List.length_drop, List.length_cons, List.length_nil, mrLL_app, keyD_i, keyD_s, keyD_b, Nat.reduceAdd, Nat.reduceEqDiff, Nat.reduceLeDiff] <;> omega) | with_unfolding_all rfl | decide)) only [go_sem, Nat.reduceAdd, Nat.reduceSub, Nat.reduceMul, Nat.reduceLeDiff, Nat.reduceEqDiff, Nat.reduceBEq, reduceIte, reduceCtorEq, hd', hp, hm, hfa]
      exact ⟨_, rfl, rfl⟩
    | some q =>
      rw [hf, Option.map_some] at hfa
      by_cases hn1 : i + 1 = n
      · have hx : nxt es n (t + 1) i = nxt es n t 0 := by simp only [nxt, hf, if_pos hn1]
        have e3 : (i + 1 == n) = true := by simp [hn1]
        have := ih (k + 1) 0 (by omega) (by omega) (by omega) (by omega)
        rw [lp_round, hx]
        simp -implicitDefEqProofs (disch := (refine id_ok ?_; first | assumption | omega | (simp only [go_sem, List.size_toArray, List.length_map, List.length_append, List.length_take, List.length_drop, List.length_cons, List.length_nil, mrLL_app, keyD_i, keyD_s, keyD_b, Nat.reduceAdd, Nat.reduceEqDiff, Nat.reduceLeDiff] <;> omega) | with_unfolding_all rfl | decide)) only [go_sem, Nat.reduceAdd, Nat.reduceSub, Nat.reduceMul, Nat.reduceLeDiff, Nat.reduceEqDiff, Nat.reduceBEq, reduceIte, reduceCtorEq, hd', hp, hm, hfa, encF, e1, e2, e3]
        exact this
      · have hx : nxt es n (t + 1) i = nxt es n t (i + 1) := by simp only [nxt, hf, if_neg hn1]
        have e3 : (i + 1 == n) = false := by simp [hn1]
        have := ih (k + 1) (i + 1) (by omega) (by omega) (by omega) (by omega)
        rw [lp_round, hx]
        simp -implicitDefEqProofs (disch := (refine id_ok ?_; first | assumption | omega | (simp only [go_sem, List.size_toArray, List.length_map, List.length_append, List.length_take, List.length_drop, List.length_cons, List.length_nil, mrLL_app, keyD_i, keyD_s, keyD_b, Nat.reduceAdd, Nat.reduceEqDiff, Nat.reduceLeDiff] <;> omega) | with_unfolding_all rfl | decide)) only [go_sem, Nat.reduceAdd, Nat.reduceSub, Nat.reduceMul, Nat.reduceLeDiff, Nat.reduceEqDiff, Nat.reduceBEq, reduceIte, reduceCtorEq, hd', hp, hm, hfa, encF, e1, e2, e3]
        exact this

def startI (n i : Int) : Int := if n ≤ max i 0 then 0 else max i 0
def nextR (l s d i : Int) (es : List (Int × List UInt8)) : Int := if cnt l s d - es.length = 0 then -1 else nxt es (cnt l s d) (cnt l s d).toNat (startI (cnt l s d) i)
theorem max_if (a : Int) : (if 0 > a then 0 else a) = max a 0 := by omega
theorem next_run {h : AH} {p m : Nat} {l s d i : Int} {es : List (Int × List UInt8)} (hh : heapAt h p m l s d es) (hr : rightP l s d) (hn : es.length ≤ 1000000000000) :
    run T 9 [.box p 0, .int .i64 i] h = some (.int .i64 (nextR l s d i es), h) := by
  have h1 := missing_run hh hr hn
  have h2 := count_run (l := l) (s := s) (d := d) (h := [])
  simp only [hd] at h2
  have hb := cnt_bound hr
  rw [← cnt_right hr] at hb
  have hl := hr.2.1
  have hloop := next_loop hh (n := cnt l s d) (by omega) (cnt l s d).toNat 0 (startI (cnt l s d) i) (by omega) (by omega) (by unfold startI; split <;> omega) (by unfold startI; split <;> omega)
  obtain ⟨hp, hm⟩ := hh
  rw [run_code T_9]
  by_cases hz : cnt l s d - es.length = 0
  · have hx : nextR l s d i es = -1 := if_pos hz
    rw [hz] at h1
    rw [hx]
    simp -implicitDefEqProofs (disch := (refine id_ok ?_; first | assumption | omega | (simp only [go_sem, List.size_toArray, List.length_map, List.length_append, List.length_take, List.length_drop, List.length_cons, List.length_nil, mrLL_app, keyD_i, keyD_s, keyD_b, Nat.reduceAdd, Nat.reduceEqDiff, Nat.reduceLeDiff] <;> omega) | with_unfolding_all rfl | decide)) only [go_sem, Nat.reduceAdd, Nat.reduceSub, Nat.reduceMul, Nat.reduceLeDiff, Nat.reduceEqDiff, Nat.reduceBEq, reduceIte, reduceCtorEq, c_chunk_Heap_Next, h1]
  · have hx : nextR l s d i es = nxt es (cnt l s d) (cnt l s d).toNat (startI (cnt l s d) i) := if_neg hz
    have e1 : (cnt l s d - (es.length : Int) == 0) = false := by simpa using hz
    by_cases hi : cnt l s d ≤ max i 0
    · have e2 : decide (cnt l s d ≤ max i 0) = true := decide_eq_true hi
      have hs : startI (cnt l s d) i = 0 := if_pos hi
      rw [hs] at hloop hx
      rw [hx]
      rcases hloop with ⟨hq, hl⟩ | ⟨σ, hl, hq⟩
      · simp -implicitDefEqProofs (disch := (refine id_ok ?_; first | assumption | omega | (simp only [go_sem, List.size_toArray, List.length_map, List.length_append, List.length_take, List.length_drop, List.length_cons, List.length_nil, mrLL_app, keyD_i, keyD_s, keyD_b, Nat.reduceAdd, Nat.reduceEqDiff, Nat.reduceLeDiff] <;> omega) | with_unfolding_all rfl | decide)) only [go_sem, Nat.reduceAdd, Nat.reduceSub, Nat.reduceMul, Nat.reduceLeDiff, Nat.reduceEqDiff, Nat.reduceBEq, reduceIte, reduceCtorEq, c_chunk_Heap_Next, hp, h1, h2, e1, e2, max_if, hl, hq]
      · simp -implicitDefEqProofs (disch := (refine id_ok ?_; first | assumption | omega | (simp only [go_sem, List.size_toArray, List.length_map, List.length_append, List.length_take, List.length_drop, List.length_cons, List.length_nil, mrLL_app, keyD_i, keyD_s, keyD_b, Nat.reduceAdd, Nat.reduceEqDiff, Nat.reduceLeDiff] <;> omega) | with_unfolding_all rfl | decide)) only [go_sem, Nat.reduceAdd, Nat.reduceSub, Nat.reduceMul, Nat.reduceLeDiff, Nat.reduceEqDiff, Nat.reduceBEq, reduceIte, reduceCtorEq, c_chunk_Heap_Next, hp, h1, h2, e1, e2, max_if, hl, hq]
    · have e2 : decide (cnt l s d ≤ max i 0) = false := decide_eq_false hi
      have hs : startI (cnt l s d) i = max i 0 := if_neg hi
      rw [hs] at hloop hx
      rw [hx]
      rcases hloop with ⟨hq, hl⟩ | ⟨σ, hl, hq⟩
      · simp -implicitDefEqProofs (disch := (refine id_ok ?_; first | assumption | omega | (simp only [go_sem, List.size_toArray, List.length_map, List.length_append, List.length_take, List.length_drop, List.length_cons, List.length_nil, mrLL_app, keyD_i, keyD_s, keyD_b, Nat.reduceAdd, Nat.reduceEqDiff, Nat.reduceLeDiff] <;> omega) | with_unfolding_all rfl | decide)) only [go_sem, Nat.reduceAdd, Nat.reduceSub, Nat.reduceMul, Nat.reduceLeDiff, Nat.reduceEqDiff, Nat.reduceBEq, reduceIte, reduceCtorEq, c_chunk_Heap_Next, hp, h1, h2, e1, e2, max_if, hl, hq]
      · simp -implicitDefEqProofs (disch := (refine id_ok ?_; first | assumption | omega | (simp only [go_sem, List.size_toArray, List.length_map, List.length_append, List.length_take, List.length_drop, List.length_cons, List.length_nil, mrLL_app, keyD_i, keyD_s, keyD_b, Nat.reduceAdd, Nat.reduceEqDiff, Nat.reduceLeDiff] <;> omega) | with_unfolding_all rfl | decide)) only [go_sem, Nat.reduceAdd, Nat.reduceSub, Nat.reduceMul, Nat.reduceLeDiff, Nat.reduceEqDiff, Nat.reduceBEq, reduceIte, reduceCtorEq, c_chunk_Heap_Next, hp, h1, h2, e1, e2, max_if, hl, hq]
end Go.Proofs.Ytgmhbncbmpahjaa.L
