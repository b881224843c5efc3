/- Chunks: the checks that each law makes first. -/
import Derived.Test.YtgmhbncbmpahjaaL14
set_option linter.all false
set_option maxRecDepth 100000
namespace Go.Proofs.Ytgmhbncbmpahjaa.L
open Go.Proofs.Ytgmhbncbmpahjaa.M Go.Proofs.Ytgmhbncbmpahjaa.F Go.Proofs

theorem first19 : run T 4 [] [] = some (.bool true, []) := by
  generalize hD : (ofB [97, 98, 99, 100, 101] : Int) = D
  have hp : headP [97, 98, 99, 100, 101] 2 := ⟨by decide, by decide⟩
  have hr : rightP 5 2 D := by rw [← hD]; exact head_right hp
  have hc : cnt 5 2 D = 3 := by rw [cnt_right hr]; decide
  have c2 : clen 5 2 D 2 = 1 := by rw [clen, hc]; decide
  have c0 : clen 5 2 D 0 = 2 := by rw [clen, hc]; decide
  have h1 : run T 17 [.sl .sh [[.int .u8 97], [.int .u8 98], [.int .u8 99], [.int .u8 100], [.int .u8 101]], .int .i64 2] [] = some (.tup [.agg [.int .i64 5, .int .i64 2, .int .i64 D], .bool true], []) := by
    have := headof_yes (h := []) hp
    rw [hD] at this; exact this
  have h2 : run T 11 [.sl .sh [[.int .u8 97], [.int .u8 98], [.int .u8 99], [.int .u8 100], [.int .u8 101]], .int .i64 2, .int .i64 2] [] = some (.tup [ow [encB 101], .bool true], []) := by
    have := cut_yes (b := [97, 98, 99, 100, 101]) (n := 2) (i := 2) (h := []) hp ⟨by decide, by rw [hD]; show 2 < cnt 5 2 D; rw [hc]; decide⟩
    rw [hD, show clen (([97, 98, 99, 100, 101] : List UInt8).length : Int) 2 D 2 = 1 from c2] at this
    exact this
  have h3 : run T 5 [.agg [.int .i64 5, .int .i64 2, .int .i64 D]] [.cells [.int .i64 5, .int .i64 2, .int .i64 D]] = some (.tup [.box 3 0, .int .i64 0], [.cells [.int .i64 5, .int .i64 2, .int .i64 D], .cells [.int .i64 5, .int .i64 2, .int .i64 D], .amap [], .cells [.int .i64 5, .int .i64 2, .int .i64 D, .mp 2]]) := new_yes hr
  have k0 : heapAt [.cells [.int .i64 5, .int .i64 2, .int .i64 D], .cells [.int .i64 5, .int .i64 2, .int .i64 D], .amap [], .cells [.int .i64 5, .int .i64 2, .int .i64 D, .mp 2]] 3 2 5 2 D [] := ⟨rfl, rfl⟩
  have p2 : putR 5 2 D 2 [101] [] = 0 := by rw [putR, c2]; decide
  have h4 := put_run (i := 2) (c := [101]) k0 (by decide)
  rw [p2, if_pos rfl] at h4
  have h4' : run T 7 [.box 3 0, .int .i64 2, .sl .sh [encB 101]] [.cells [.int .i64 5, .int .i64 2, .int .i64 D], .cells [.int .i64 5, .int .i64 2, .int .i64 D], .amap [], .cells [.int .i64 5, .int .i64 2, .int .i64 D, .mp 2]] = some (.int .i64 0, [.cells [.int .i64 5, .int .i64 2, .int .i64 D], .cells [.int .i64 5, .int .i64 2, .int .i64 D], .amap [enE (2, [101])], .cells [.int .i64 5, .int .i64 2, .int .i64 D, .mp 2]]) := h4
  have k1 : heapAt [.cells [.int .i64 5, .int .i64 2, .int .i64 D], .cells [.int .i64 5, .int .i64 2, .int .i64 D], .amap [enE (2, [101])], .cells [.int .i64 5, .int .i64 2, .int .i64 D, .mp 2]] 3 2 5 2 D [(2, [101])] := ⟨rfl, rfl⟩
  have p0 : putR 5 2 D 0 [101] [(2, [101])] = 13 := by rw [putR, c0]; decide
  have h5 := put_run (i := 0) (c := [101]) k1 (by decide)
  rw [p0, if_neg (by decide)] at h5
  have h5' : run T 7 [.box 3 0, .int .i64 0, .sl .sh [encB 101]] _ = _ := h5
  have h6 := bytes_missing k1 hr (by decide) (by rw [hc]; decide)
  have h7 := missing_run k1 hr (by decide)
  rw [hc] at h7
  have h7' : run T 8 [.box 3 0] _ = some (.int .i64 2, _) := h7
  have h8 := next_run (i := 1) k1 hr (by decide)
  rw [show nextR 5 2 D 1 [(2, [101])] = 1 by rw [nextR, hc]; decide] at h8
  have h9 := next_run (i := 2) k1 hr (by decide)
  rw [show nextR 5 2 D 2 [(2, [101])] = 0 by rw [nextR, hc]; decide] at h9
  have h10 := count_run (l := 5) (s := 2) (d := D) (h := [])
  rw [hc] at h10
  have h11 := right_run (l := 5) (s := 2) (d := D) (h := [])
  rw [decide_eq_true hr] at h11
  simp only [hd] at h10 h11
  have hm : mrLL [encB 101] = 0 := rfl
  have hb : bytesV (ow [encB 101]) = some (.str ⟨#[101]⟩) := ow_bytes (b := [101])
  have hq : ((ByteArray.toList ⟨#[101]⟩) == (ByteArray.toList ⟨#[101]⟩)) = true := beq_self_eq_true _
  rw [run_code T_4]
  simp (maxSteps := 2000000) -implicitDefEqProofs (disch := (refine id_ok ?_; first | assumption | omega | (simp only [go_sem, List.size_toArray, List.length_map, List.length_append, List.length_take, List.length_drop, List.length_cons, List.length_nil, mrLL_app, keyD_i, keyD_s, keyD_b, Nat.reduceAdd, Nat.reduceEqDiff, Nat.reduceLeDiff] <;> omega) | with_unfolding_all rfl | decide)) only [go_sem, Nat.reduceAdd, Nat.reduceSub, Nat.reduceMul, Nat.reduceLeDiff, Nat.reduceEqDiff, Nat.reduceBEq, reduceIte, reduceCtorEq, c_regencylaw19_first, h1, h2, h3, h4', h5', h6, h7', h8, h9, h10, h11, hm, hb, hq]
  try rfl
end Go.Proofs.Ytgmhbncbmpahjaa.L
