/- Chunks: the head of bytes, and a chunk cut. -/
import Derived.Test.YtgmhbncbmpahjaaL11
import Derived.Test.YtgmhbncbmpahjaaL3
set_option linter.all false
set_option maxRecDepth 100000
namespace Go.Proofs.Ytgmhbncbmpahjaa.L
open Go.Proofs.Ytgmhbncbmpahjaa.M Go.Proofs.Ytgmhbncbmpahjaa.F Go.Proofs

def headP (b : List UInt8) (n : Int) : Prop := sizeP n ∧ b.length ≤ 1073741824
instance (b : List UInt8) (n : Int) : Decidable (headP b n) := by unfold headP; infer_instance
theorem headof_yes {b : List UInt8} {n : Int} {h : AH} (hp : headP b n) : run T 17 [.sl .sh (b.map encB), .int .i64 n] h = some (.tup [.agg (hd b.length n (ofB b)), .bool true], h) := by
  rw [run_code T_17]
  have e1 : decide (sizeP n) = true := decide_eq_true hp.1
  have e2 : decide ((1073741824 : Int) < b.length) = false := decide_eq_false (by have := hp.2; omega)
  have h1 := of_run (l := b) (h := []) (by have := hp.2; omega)
  simp -implicitDefEqProofs (disch := (refine id_ok ?_; first | assumption | omega | (simp only [go_sem, List.size_toArray, List.length_map, List.length_append, List.length_take, List.length_drop, List.length_cons, List.length_nil, mrLL_app, keyD_i, keyD_s, keyD_b, Nat.reduceAdd, Nat.reduceEqDiff, Nat.reduceLeDiff] <;> omega) | with_unfolding_all rfl | decide)) only [go_sem, Nat.reduceAdd, Nat.reduceSub, Nat.reduceMul, Nat.reduceLeDiff, Nat.reduceEqDiff, Nat.reduceBEq, reduceIte, reduceCtorEq, c_chunk_HeadOf, size_run, List.length_map, e1, e2, h1, hd]
theorem headof_no {b : List UInt8} {n : Int} {h : AH} (hp : ¬ headP b n) : run T 17 [.sl .sh (b.map encB), .int .i64 n] h = some (.tup [.agg (hd 0 0 0), .bool false], h) := by
  rw [run_code T_17]
  by_cases hs : sizeP n
  · have e1 : decide (sizeP n) = true := decide_eq_true hs
    have e2 : decide ((1073741824 : Int) < b.length) = true := decide_eq_true (by have : ¬ b.length ≤ 1073741824 := fun x => hp ⟨hs, x⟩; omega)
    simp -implicitDefEqProofs (disch := (refine id_ok ?_; first | assumption | omega | (simp only [go_sem, List.size_toArray, List.length_map, List.length_append, List.length_take, List.length_drop, List.length_cons, List.length_nil, mrLL_app, keyD_i, keyD_s, keyD_b, Nat.reduceAdd, Nat.reduceEqDiff, Nat.reduceLeDiff] <;> omega) | with_unfolding_all rfl | decide)) only [go_sem, Nat.reduceAdd, Nat.reduceSub, Nat.reduceMul, Nat.reduceLeDiff, Nat.reduceEqDiff, Nat.reduceBEq, reduceIte, reduceCtorEq, c_chunk_HeadOf, size_run, List.length_map, e1, e2, hd]
  · have e1 : decide (sizeP n) = false := decide_eq_false hs
    simp -implicitDefEqProofs (disch := (refine id_ok ?_; first | assumption | omega | (simp only [go_sem, List.size_toArray, List.length_map, List.length_append, List.length_take, List.length_drop, List.length_cons, List.length_nil, mrLL_app, keyD_i, keyD_s, keyD_b, Nat.reduceAdd, Nat.reduceEqDiff, Nat.reduceLeDiff] <;> omega) | with_unfolding_all rfl | decide)) only [go_sem, Nat.reduceAdd, Nat.reduceSub, Nat.reduceMul, Nat.reduceLeDiff, Nat.reduceEqDiff, Nat.reduceBEq, reduceIte, reduceCtorEq, c_chunk_HeadOf, size_run, List.length_map, e1, hd]
theorem head_right {b : List UInt8} {n : Int} (hp : headP b n) : rightP b.length n (ofB b) := by
  have : ofB b < 4611686018427387904 := num_le _
  exact ⟨by omega, by have := hp.2; omega, hp.1, by omega, by omega⟩

theorem slc_mid {l : List UInt8} {lo hi : Int} (h0 : 0 ≤ lo) (h1 : lo ≤ hi) (h2 : hi ≤ l.length) : sliceV (some 1) (.sl .sh (l.map encB)) (some (some lo)) (some (some hi)) (some none) = some (.sl .sh (((l.take hi.toNat).drop lo.toNat).map encB)) := by
  rw [slc_none (by simpa using h0) (by simpa using h1) (by simpa using h2) szOK_enc, if_neg (by simp)]
  simp

def cutL (b : List UInt8) (n i k : Int) : List UInt8 := (b.take (i * n + k).toNat).drop (i * n).toNat
theorem cut_yes {b : List UInt8} {n i : Int} {h : AH} (hp : headP b n) (hi : 0 ≤ i ∧ i < cnt b.length n (ofB b)) :
    run T 11 [.sl .sh (b.map encB), .int .i64 n, .int .i64 i] h = some (.tup [ow ((cutL b n i (clen b.length n (ofB b) i)).map encB), .bool true], h) := by
  obtain ⟨_, m0, m1, m2, m3⟩ := mul_bounds hi
  have hl : clen b.length n (ofB b) i = min n (b.length - i * n) := if_pos hi
  have hn := hp.1.1
  have hn2 := hp.1.2
  have hb := hp.2
  have e1 : decide (clen b.length n (ofB b) i < 0) = false := decide_eq_false (by rw [hl]; omega)
  have e2 : IntKind.i64.wrap (i * n) = i * n := w64 (by omega) (by omega)
  have e3 : IntKind.i64.wrap (i * n + clen b.length n (ofB b) i) = i * n + clen b.length n (ofB b) i := w64 (by rw [hl]; omega) (by rw [hl]; omega)
  have e4 := slc_mid (l := b) (lo := i * n) (hi := i * n + clen b.length n (ofB b) i) m0 (by rw [hl]; omega) (by rw [hl]; omega)
  have e5 := clone_run (l := cutL b n i (clen b.length n (ofB b) i)) (h := []) (by rw [cutL, List.length_drop, List.length_take]; omega)
  rw [show ((b.take (i * n + clen b.length n (ofB b) i).toNat).drop (i * n).toNat) = cutL b n i (clen b.length n (ofB b) i) from rfl] at e4
  have h1 := headof_yes (h := []) hp
  simp only [hd] at h1
  have h2 := length_run (l := b.length) (s := n) (d := ofB b) (i := i) (h := [])
  simp only [hd] at h2
  rw [run_code T_11]
  simp -implicitDefEqProofs (disch := (refine id_ok ?_; first | assumption | omega | (simp only [go_sem, List.size_toArray, List.length_map, List.length_append, List.length_take, List.length_drop, List.length_cons, List.length_nil, mrLL_app, keyD_i, keyD_s, keyD_b, Nat.reduceAdd, Nat.reduceEqDiff, Nat.reduceLeDiff] <;> omega) | with_unfolding_all rfl | decide)) only [go_sem, Nat.reduceAdd, Nat.reduceSub, Nat.reduceMul, Nat.reduceLeDiff, Nat.reduceEqDiff, Nat.reduceBEq, reduceIte, reduceCtorEq, c_chunk_Cut, h1, h2, e1, e2, e3, e4, e5, hd]
theorem cut_no {b : List UInt8} {n i : Int} {h : AH} (hp : ¬ (headP b n ∧ 0 ≤ i ∧ i < cnt b.length n (ofB b))) :
    run T 11 [.sl .sh (b.map encB), .int .i64 n, .int .i64 i] h = some (.tup [ow [], .bool false], h) := by
  rw [run_code T_11]
  by_cases hh : headP b n
  · have h1 := headof_yes (h := []) hh
    have h2 := length_run (l := b.length) (s := n) (d := ofB b) (i := i) (h := [])
    have hc : clen b.length n (ofB b) i = -1 := if_neg fun x => hp ⟨hh, x⟩
    rw [hc] at h2
    simp only [hd] at h1 h2
    simp -implicitDefEqProofs (disch := (refine id_ok ?_; first | assumption | omega | (simp only [go_sem, List.size_toArray, List.length_map, List.length_append, List.length_take, List.length_drop, List.length_cons, List.length_nil, mrLL_app, keyD_i, keyD_s, keyD_b, Nat.reduceAdd, Nat.reduceEqDiff, Nat.reduceLeDiff] <;> omega) | with_unfolding_all rfl | decide)) only [go_sem, Nat.reduceAdd, Nat.reduceSub, Nat.reduceMul, Nat.reduceLeDiff, Nat.reduceEqDiff, Nat.reduceBEq, reduceIte, reduceCtorEq, c_chunk_Cut, h1, h2, hd, show decide ((-1 : Int) < 0) = true from rfl]
  · have h1 := headof_no (h := []) hh
    have h2 := length_run (l := 0) (s := 0) (d := 0) (i := i) (h := [])
    simp only [hd] at h1 h2
    simp -implicitDefEqProofs (disch := (refine id_ok ?_; first | assumption | omega | (simp only [go_sem, List.size_toArray, List.length_map, List.length_append, List.length_take, List.length_drop, List.length_cons, List.length_nil, mrLL_app, keyD_i, keyD_s, keyD_b, Nat.reduceAdd, Nat.reduceEqDiff, Nat.reduceLeDiff] <;> omega) | with_unfolding_all rfl | decide)) only [go_sem, Nat.reduceAdd, Nat.reduceSub, Nat.reduceMul, Nat.reduceLeDiff, Nat.reduceEqDiff, Nat.reduceBEq, reduceIte, reduceCtorEq, c_chunk_Cut, h1, h2, hd]
end Go.Proofs.Ytgmhbncbmpahjaa.L
