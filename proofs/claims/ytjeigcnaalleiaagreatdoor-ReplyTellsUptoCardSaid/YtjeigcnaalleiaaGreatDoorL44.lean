/- The document's bytes and replies: numbers, texts, labels, replies. -/
import Derived.Test.YtjeigcnaalleiaaGreatDoorL40
import Derived.Test.YtjeigcnaalleiaaGreatDoorL30
import Derived.Test.YtjeigcnaalleiaaGreatDoorL31
set_option linter.all false
set_option maxRecDepth 100000
namespace Go.Proofs.YtjeigcnaalleiaaGreatDoor.L
open Go.Proofs.YtjeigcnaalleiaaGreatDoor.M Go.Proofs.YtjeigcnaalleiaaGreatDoor.F Go.Proofs

theorem byt1 {m : Md} {x : UInt8} : bytesV (.sl m [[.int .u8 (x.toNat : Int)]]) = some (.str ⟨[x].toArray⟩) := bytes_enc (l := [x])
attribute [go_sem] byt1
theorem rn_run : ∀ (n : Nat) {h : AH}, n ≤ 4611686018427387903 → run T 36 [.int .i64 n] h = some (.str ⟨(num n).toArray⟩, h) := by
  intro n
  induction n using Nat.strongRecOn with
  | _ n ih =>
    intro h hn
    rw [run_code T_36]
    rw [num]
    by_cases hc : n < 128
    · have hd : decide ((n : Int) < 128) = true := decide_eq_true (by omega)
      rw [dif_pos hc]
      simp -implicitDefEqProofs (disch := (refine id_ok ?_; first | assumption | omega | (simp only [go_sem, List.size_toArray, List.length_map, List.length_append, List.length_take, List.length_drop, List.length_cons, List.length_nil, mrLL_app, keyD_i, keyD_s, keyD_b, Nat.reduceAdd, Nat.reduceEqDiff, Nat.reduceLeDiff] <;> omega) | with_unfolding_all rfl | decide)) only [go_sem, Nat.reduceAdd, Nat.reduceSub, Nat.reduceMul, Nat.reduceLeDiff, Nat.reduceEqDiff, Nat.reduceBEq, reduceIte, reduceCtorEq, c_regencyref03_Number, hd, tm8 hc]
    · have hd : decide ((n : Int) < 128) = false := decide_eq_false (by omega)
      have h1 := ih (n / 128) (by omega) (h := []) (by omega)
      have h9 := num_len (n := n / 128) (by omega)
      have e1 : IntKind.u8.wrap (IntKind.i64.wrap (128 + (n : Int).tmod 128)) = ((UInt8.ofNat (n % 128 + 128)).toNat : Int) := by rw [Int.add_comm 128]; exact tm128 hn
      rw [dif_neg hc]
      simp -implicitDefEqProofs (disch := (refine id_ok ?_; first | assumption | omega | (simp only [go_sem, List.size_toArray, List.length_map, List.length_append, List.length_take, List.length_drop, List.length_cons, List.length_nil, mrLL_app, keyD_i, keyD_s, keyD_b, Nat.reduceAdd, Nat.reduceEqDiff, Nat.reduceLeDiff] <;> omega) | with_unfolding_all rfl | decide)) only [go_sem, Nat.reduceAdd, Nat.reduceSub, Nat.reduceMul, Nat.reduceLeDiff, Nat.reduceEqDiff, Nat.reduceBEq, reduceIte, reduceCtorEq, c_regencyref03_Number, hd, e1, td128 hn, h1, List.cons_append, List.nil_append]
theorem rt_run {s : List UInt8} {h : AH} (hs : s.length ≤ 4611686018427387903) : run T 37 [.str ⟨s.toArray⟩] h = some (.str ⟨(num s.length ++ s).toArray⟩, h) := by
  have h1 := rn_run s.length (h := []) hs
  have h9 := num_len (n := s.length) hs
  rw [run_code T_37]
  simp -implicitDefEqProofs (disch := (refine id_ok ?_; first | assumption | omega | (simp only [go_sem, List.size_toArray, List.length_map, List.length_append, List.length_take, List.length_drop, List.length_cons, List.length_nil, mrLL_app, keyD_i, keyD_s, keyD_b, Nat.reduceAdd, Nat.reduceEqDiff, Nat.reduceLeDiff] <;> omega) | with_unfolding_all rfl | decide)) only [go_sem, Nat.reduceAdd, Nat.reduceSub, Nat.reduceMul, Nat.reduceLeDiff, Nat.reduceEqDiff, Nat.reduceBEq, reduceIte, reduceCtorEq, c_regencyref03_Text, h1]
theorem rput_loop {l : List Ent} (hl : ∀ e ∈ l, e.1.length ≤ 60 ∧ 0 ≤ e.2 ∧ e.2 < 4 ∧ e.2 ≠ 1) (hll : l.length ≤ 1000) : ∀ (d i : Nat) (js : AH) (b : List UInt8), d + i = l.length → b.length ≤ 80 * i + 9 →
    den T (.loop l_regencyref06_Put_0) (s_regencyref06_Put_0 (.str ⟨b.toArray⟩) (.sl .sh (l.map encE)) (.int .i64 l.length) (.int .i64 i)) js = some (.exit 0, x_regencyref06_Put_0 (.str ⟨(b ++ (l.drop i).flatMap enE1).toArray⟩), js ++ (l.drop i).map bxE) := by
  intro d
  induction d with
  | zero =>
    intro i js b hd hb
    have hd' : decide ((i : Int) < l.length) = false := decide_eq_false (by omega)
    rw [List.drop_eq_nil_of_le (by omega), List.flatMap_nil, List.append_nil, List.map_nil, List.append_nil]
    rw [lp_round]
    simp -implicitDefEqProofs (disch := (refine id_ok ?_; first | assumption | omega | (simp only [go_sem, List.size_toArray, List.length_map, List.length_append, List.length_take, List.length_drop, List.length_cons, List.length_nil, mrLL_app, keyD_i, keyD_s, keyD_b, Nat.reduceAdd, Nat.reduceEqDiff, Nat.reduceLeDiff] <;> omega) | with_unfolding_all rfl | decide)) only [go_sem, Nat.reduceAdd, Nat.reduceSub, Nat.reduceMul, Nat.reduceLeDiff, Nat.reduceEqDiff, Nat.reduceBEq, reduceIte, reduceCtorEq, hd']
  | succ d ih =>
    intro i js b hd hb
    have hib : i < l.length := by omega
    have hd' : decide ((i : Int) < l.length) = true := decide_eq_true (by omega)
    have hge : (l.map encE)[(i : Int).toNat]? = some (encE l[i]) := by simp [hib]
    have hdr : l.drop i = l[i] :: l.drop (i + 1) := List.drop_eq_getElem_cons hib
    have hcl := hl l[i] (by simp)
    rw [hdr]
    generalize l[i] = e at *
    obtain ⟨c, v⟩ := e
    simp only at hcl
    obtain ⟨hc1, hc2, hc3, _⟩ := hcl
    obtain ⟨v, rfl⟩ : ∃ n : Nat, v = n := ⟨v.toNat, by omega⟩
    have n1 := num_len (n := c.length) (by omega)
    have n2 := num_len (n := v) (by omega)
    have t1 := rt_run (s := c) (h := []) (by omega)
    have t2 := rn_run v (h := []) (by omega)
    have e7 := inc64 (n := i) (by omega)
    have d1 : decide ((v : Int) ≥ 0) = true := decide_eq_true (by omega)
    have d2 : decide ((v : Int) ≤ 4611686018427387903) = true := decide_eq_true (by omega)
    have ih' := ih (i + 1) (js ++ [.cells (encE (c, (v : Int)))]) (b ++ (num c.length ++ c) ++ num v) (by omega) (by simp only [List.length_append]; omega)
    simp only [List.flatMap_cons, List.map_cons, bxE, enE1, Int.toNat_natCast, List.append_assoc, List.singleton_append] at ih' ⊢
    simp only [encE] at ih'
    rw [lp_round]
    simp -implicitDefEqProofs (disch := (refine id_ok ?_; first | assumption | omega | (simp only [go_sem, List.size_toArray, List.length_map, List.length_append, List.length_take, List.length_drop, List.length_cons, List.length_nil, mrLL_app, keyD_i, keyD_s, keyD_b, Nat.reduceAdd, Nat.reduceEqDiff, Nat.reduceLeDiff] <;> omega) | with_unfolding_all rfl | decide)) only [go_sem, Nat.reduceAdd, Nat.reduceSub, Nat.reduceMul, Nat.reduceLeDiff, Nat.reduceEqDiff, Nat.reduceBEq, reduceIte, reduceCtorEq, hd', hge, encE, app_get0, app_set0, t1, t2, d1, d2, e7]
    exact ih'
theorem rput_run {l : List Ent} {h : AH} (hl : rigL l = true) : run T 51 [.sl .sh (l.map encE)] h = some (.str ⟨(num l.length ++ l.flatMap enE1).toArray⟩, h) := by
  simp only [rigL, Bool.and_eq_true, decide_eq_true_eq] at hl
  have n1 := num_len (n := l.length) (by omega)
  have h1 := rn_run l.length (h := []) (by omega)
  have h2 := rput_loop (rigE_all _ _ hl.2) (by omega) l.length 0 h (num l.length) (by omega) (by omega)
  rw [List.drop_zero] at h2
  simp only [show ((0 : Nat) : Int) = 0 from rfl] at h2
  rw [run_code T_51]
  simp -implicitDefEqProofs (disch := (refine id_ok ?_; first | assumption | omega | (simp only [go_sem, List.size_toArray, List.length_map, List.length_append, List.length_take, List.length_drop, List.length_cons, List.length_nil, mrLL_app, keyD_i, keyD_s, keyD_b, Nat.reduceAdd, Nat.reduceEqDiff, Nat.reduceLeDiff] <;> omega) | with_unfolding_all rfl | decide)) only [go_sem, Nat.reduceAdd, Nat.reduceSub, Nat.reduceMul, Nat.reduceLeDiff, Nat.reduceEqDiff, Nat.reduceBEq, reduceIte, reduceCtorEq, c_regencyref06_Put, List.length_map, h1, h2]
end Go.Proofs.YtjeigcnaalleiaaGreatDoor.L

/- The document's replies: their bytes. -/
set_option linter.all false
set_option maxRecDepth 100000
namespace Go.Proofs.YtjeigcnaalleiaaGreatDoor.L
open Go.Proofs.YtjeigcnaalleiaaGreatDoor.M Go.Proofs.YtjeigcnaalleiaaGreatDoor.F Go.Proofs

set_option maxHeartbeats 4000000 in
theorem rkb_loop {l : List Kd} (hl : ∀ k ∈ l, (0 ≤ k.1 ∧ k.1 ≤ 1048576) ∧ (1 ≤ k.2.1 ∧ k.2.1 ≤ 5) ∧ (0 ≤ k.2.2 ∧ k.2.2 ≤ 1048576)) (hll : l.length ≤ 1000) : ∀ (d i : Nat) (js : AH) (b : List UInt8), d + i = l.length → b.length ≤ 100000 + 27 * i →
    den T (.loop l_regencyref12_Bytes_0) (s_regencyref12_Bytes_0 (.str ⟨b.toArray⟩) (.sl .sh (l.map encK)) (.int .i64 l.length) (.int .i64 i)) js = some (.exit 0, x_regencyref12_Bytes_0 (.str ⟨(b ++ (l.drop i).flatMap enK1).toArray⟩), js ++ (l.drop i).map bxK) := by
  intro d
  induction d with
  | zero =>
    intro i js b hd hb
    have hd' : decide ((i : Int) < l.length) = false := decide_eq_false (by omega)
    rw [List.drop_eq_nil_of_le (by omega), List.flatMap_nil, List.append_nil, List.map_nil, List.append_nil]
    rw [lp_round]
    simp -implicitDefEqProofs (disch := (refine id_ok ?_; first | assumption | omega | (simp only [go_sem, List.size_toArray, List.length_map, List.length_append, List.length_take, List.length_drop, List.length_cons, List.length_nil, mrLL_app, keyD_i, keyD_s, keyD_b, Nat.reduceAdd, Nat.reduceEqDiff, Nat.reduceLeDiff] <;> omega) | with_unfolding_all rfl | decide)) only [go_sem, Nat.reduceAdd, Nat.reduceSub, Nat.reduceMul, Nat.reduceLeDiff, Nat.reduceEqDiff, Nat.reduceBEq, reduceIte, reduceCtorEq, hd']
  | succ d ih =>
    intro i js b hd hb
    have hib : i < l.length := by omega
    have hd' : decide ((i : Int) < l.length) = true := decide_eq_true (by omega)
    have hge : (l.map encK)[(i : Int).toNat]? = some (encK l[i]) := by simp [hib]
    have hdr : l.drop i = l[i] :: l.drop (i + 1) := List.drop_eq_getElem_cons hib
    have hcl := hl l[i] (by simp)
    rw [hdr]
    generalize l[i] = e at *
    obtain ⟨u, v, w⟩ := e
    simp only at hcl
    obtain ⟨⟨hu1, hu2⟩, ⟨hv1, hv2⟩, hw1, hw2⟩ := hcl
    obtain ⟨u, rfl⟩ : ∃ n : Nat, u = n := ⟨u.toNat, by omega⟩
    obtain ⟨v, rfl⟩ : ∃ n : Nat, v = n := ⟨v.toNat, by omega⟩
    obtain ⟨w, rfl⟩ : ∃ n : Nat, w = n := ⟨w.toNat, by omega⟩
    have n1 := num_len (n := u) (by omega)
    have n2 := num_len (n := v) (by omega)
    have n3 := num_len (n := w) (by omega)
    have t1 := rn_run u (h := []) (by omega)
    have t2 := rn_run v (h := []) (by omega)
    have t3 := rn_run w (h := []) (by omega)
    have e7 := inc64 (n := i) (by omega)
    have ih' := ih (i + 1) (js ++ [bxK ((u : Int), (v : Int), (w : Int))]) (b ++ (num u ++ num v ++ num w)) (by omega) (by
      have q1 : (numP u).length ≤ 8 := numP_len 8 u (by omega)
      simp only [List.length_append]
      omega)
    simp only [List.flatMap_cons, List.map_cons, enK1, Int.toNat_natCast, List.append_assoc, List.singleton_append] at ih' ⊢
    simp only [bxK, encK] at ih' ⊢
    rw [lp_round]
    simp (maxSteps := 2000000) -implicitDefEqProofs (disch := (refine id_ok ?_; first | assumption | omega | (simp only [go_sem, List.size_toArray, List.length_map, List.length_append, List.length_take, List.length_drop, List.length_cons, List.length_nil, mrLL_app, keyD_i, keyD_s, keyD_b, Nat.reduceAdd, Nat.reduceEqDiff, Nat.reduceLeDiff] <;> omega) | with_unfolding_all rfl | decide)) only [go_sem, Nat.reduceAdd, Nat.reduceSub, Nat.reduceMul, Nat.reduceLeDiff, Nat.reduceEqDiff, Nat.reduceBEq, reduceIte, reduceCtorEq, hd', hge, encK, app_get0, app_set0, t1, t2, t3, e7]
    exact ih'
set_option maxHeartbeats 4000000 in
theorem rb_run {r : Rep} (h : rigR r = true) : run T 24 [.agg (encR r)] [] = some (.str ⟨(byR r).toArray⟩, []) := by
  obtain ⟨he, hn, ht, hc, _, hL, hl8, hl, hk16, hk⟩ := rigR_all h
  have fl := flatMap_len (f := enE1) r.label fun e he => enE1_len (hl e he)
  have hlp := fun js b hb => rkb_loop hk (by omega) r.kids.length 0 js b (by omega) hb
  simp only [List.drop_zero, show ((0 : Nat) : Int) = 0 from rfl] at hlp
  have t5 := rput_run (h := []) hL
  unfold byR
  obtain ⟨e, n, text, cat, label, kids⟩ := r
  simp only [encR] at he hn ht hc hl8 hl hk16 hk fl hlp t5 ⊢
  obtain ⟨e, rfl⟩ : ∃ k : Nat, e = k := ⟨e.toNat, by omega⟩
  obtain ⟨n, rfl⟩ : ∃ k : Nat, n = k := ⟨n.toNat, by omega⟩
  simp only [Int.toNat_natCast]
  have n1 := num_len (n := e) (by omega)
  have n2 := num_len (n := n) (by omega)
  have n3 := num_len (n := text.length) (by omega)
  have n4 := num_len (n := cat.length) (by omega)
  have n5 := num_len (n := label.length) (by omega)
  have n6 := num_len (n := kids.length) (by omega)
  have t1 := rn_run e (h := []) (by omega)
  have t2 := rn_run n (h := []) (by omega)
  have t3 := rt_run (s := text) (h := []) (by omega)
  have t4 := rt_run (s := cat) (h := []) (by omega)
  have t6 := rn_run kids.length (h := []) (by omega)
  generalize hB : label.flatMap enE1 = LB at *
  have hlp' := hlp [.cells [.int .i64 (e : Int), .int .i64 (n : Int), .sl .sh (text.map encB), .str ⟨cat.toArray⟩, .sl .sh (label.map encE), .sl .sh (kids.map encK)]] (num e ++ (num n ++ (num text.length ++ (text ++ (num cat.length ++ (cat ++ (num label.length ++ (LB ++ num kids.length)))))))) (by simp only [List.length_append]; omega)
  simp only [List.append_assoc] at hlp'
  rw [run_code T_24]
  simp (maxSteps := 2000000) -implicitDefEqProofs (disch := (refine id_ok ?_; first | assumption | omega | (simp only [go_sem, List.size_toArray, List.length_map, List.length_append, List.length_take, List.length_drop, List.length_cons, List.length_nil, mrLL_app, keyD_i, keyD_s, keyD_b, Nat.reduceAdd, Nat.reduceEqDiff, Nat.reduceLeDiff] <;> omega) | with_unfolding_all rfl | decide)) only [go_sem, Nat.reduceAdd, Nat.reduceSub, Nat.reduceMul, Nat.reduceLeDiff, Nat.reduceEqDiff, Nat.reduceBEq, reduceIte, reduceCtorEq, c_regencyref12_Bytes, List.length_map, t1, t2, t3, t4, t5, t6, List.append_assoc, hlp']
end Go.Proofs.YtjeigcnaalleiaaGreatDoor.L
