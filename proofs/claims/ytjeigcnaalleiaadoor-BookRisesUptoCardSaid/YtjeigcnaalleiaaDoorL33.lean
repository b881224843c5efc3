/- Books: made, written, cloned. -/
import Derived.Test.YtjeigcnaalleiaaDoorL32
set_option linter.all false
set_option maxRecDepth 100000
namespace Go.Proofs.YtjeigcnaalleiaaDoor.L
open Go.Proofs.YtjeigcnaalleiaaDoor.M Go.Proofs.YtjeigcnaalleiaaDoor.F Go.Proofs

def newB : List Ln := List.replicate 8 (0, none)
theorem bnew_run {h : AH} : run T 27 [] h = some (.box h.length 0, h ++ [Bk newB]) := by
  rw [run_code T_27]
  simp (maxSteps := 2000000) -implicitDefEqProofs (disch := (refine id_ok ?_; first | assumption | omega | (simp only [go_sem, List.length_map, List.length_append, List.length_take, List.length_drop, mrLL_app, keyD_i, keyD_s, keyD_b, Nat.reduceAdd, Nat.reduceEqDiff, Nat.reduceLeDiff] <;> omega) | with_unfolding_all rfl | decide)) only [go_sem, Nat.reduceAdd, Nat.reduceSub, Nat.reduceMul, Nat.reduceLeDiff, Nat.reduceEqDiff, Nat.reduceBEq, reduceIte, reduceCtorEq, c_clients_New]
  rw [gc_keep (by simp only [AV.mr, mrL]; omega)]
  rfl
/-- Lines as they are handed on. -/
def shb (b : List Ln) : List Ln := b.map fun l => (l.1, some (repL l))
theorem shL_app : ∀ a b : List AV, shL (a ++ b) = shL a ++ shL b
  | [], b => rfl
  | x :: a, b => by simp only [List.cons_append, shL, shL_app a b]
theorem shL_Bk : ∀ b : List Ln, shL (b.flatMap encL) = (shb b).flatMap encL
  | [] => rfl
  | l :: b => by rw [List.flatMap_cons, shL_app, shL_L, shL_Bk b]; rfl
def enL1 (l : Ln) : List UInt8 := num l.1.toNat ++ (if 0 < l.1 then num (bytR (repL l)).length ++ bytR (repL l) else [])
def bxL (l : Ln) : Bx := .cells (encL (l.1, some (repL l)))
theorem onesL_R (r : Rep) : onesL (encR r) = true := rfl
set_option maxHeartbeats 4000000 in
theorem bput_loop {q : Nat} {b : List Ln} (hb : b.length = 8) (hs : ∀ l ∈ b, (0 ≤ l.1 ∧ l.1 ≤ 1048576) ∧ okR (repL l)) : ∀ (d i : Nat) (H : AH) (w : List UInt8), d + i = 8 → H[q]? = some (Pn w) → w.length + d * 3000 + 18 ≤ 100000000000 →
    den T (.loop l_clients_Book_Put_0) (s_clients_Book_Put_0 (.box q 0) (.agg ((shb b).flatMap encL)) (.int .i64 i)) H = some (.exit 0, x_clients_Book_Put_0, H.set q (Pn (w ++ (b.drop i).flatMap enL1)) ++ (b.drop i).map bxL) := by
  intro d
  induction d with
  | zero =>
    intro i H w hd hp hw
    have hd' : decide ((i : Int) < 8) = false := decide_eq_false (by omega)
    rw [List.drop_eq_nil_of_le (by omega), List.flatMap_nil, List.append_nil, set_same hp, List.map_nil, List.append_nil]
    rw [lp_round]
    simp -implicitDefEqProofs (disch := (refine id_ok ?_; first | assumption | omega | (simp only [go_sem, List.length_map, List.length_append, List.length_take, List.length_drop, mrLL_app, keyD_i, keyD_s, keyD_b, Nat.reduceAdd, Nat.reduceEqDiff, Nat.reduceLeDiff] <;> omega) | with_unfolding_all rfl | decide)) only [go_sem, Nat.reduceAdd, Nat.reduceSub, Nat.reduceMul, Nat.reduceLeDiff, Nat.reduceEqDiff, Nat.reduceBEq, reduceIte, reduceCtorEq, hd']
  | succ d ih =>
    intro i H w hd hp hw
    have hib : i < b.length := by omega
    have hd' : decide ((i : Int) < 8) = true := decide_eq_true (by omega)
    have hdr : b.drop i = b[i] :: b.drop (i + 1) := List.drop_eq_getElem_cons hib
    have hk : i < (shb b).length := by simp [shb]; omega
    have ht := flat_take (b := shb b) (i := i) hk
    have hle : Nat.ble (i * 7 + 7) ((shb b).flatMap encL).length = true := by rw [flat_len]; exact Nat.ble_eq_true_of_le (by simp [shb]; omega)
    have hge : (shb b)[i] = (b[i].1, some (repL b[i])) := by simp [shb]
    rw [hge] at ht
    have hcl := hs b[i] (by simp)
    rw [hdr]
    generalize b[i] = l at *
    obtain ⟨n, o⟩ := l
    simp only at hcl ht
    obtain ⟨⟨h1, h2⟩, ho⟩ := hcl
    obtain ⟨n, rfl⟩ : ∃ k : Nat, n = k := ⟨n.toNat, by omega⟩
    have hby := bytR_run ho
    have hbl := bytR_len (repL ((n : Int), o))
    have henc : encL ((n : Int), some (repL ((n : Int), o))) = .int .i64 (n : Int) :: encR (repL ((n : Int), o)) := rfl
    rw [henc] at ht
    have hlt : q < H.length := (List.getElem?_eq_some_iff.1 hp).1
    have hgp : ∀ x c : Bx, (H.set q x ++ [c])[q]? = some x := fun x c => by rw [List.getElem?_append_left (by simpa using hlt), List.getElem?_set_self hlt]
    have hne : ∀ X : Bx, (H ++ [X])[q]? = some (Pn w) := fun X => by rw [List.getElem?_append_left hlt]; exact hp
    have n1 := num_len (n := n) (by omega)
    have n2 := num_len (n := (bytR (repL ((n : Int), o))).length) (by omega)
    have t1 := fun X => pnum_run (n := n) (hne X) (by omega) (by omega)
    have t2 := fun X => ptext_run (p := q) (s := bytR (repL ((n : Int), o))) (l := w ++ num n) (h := H.set q (Pn (w ++ num n)) ++ [X]) (hgp _ _) (by simp only [List.length_append]; omega)
    simp only [List.set_append_left _ _ hlt] at t1
    have hsl : ∀ (x y c : Bx), (H.set q x ++ [c]).set q y = H.set q y ++ [c] := fun x y c => by rw [List.set_append_left _ _ (by simpa using hlt), List.set_set]
    simp only [hsl] at t2
    have gH : ∀ x c : Bx, (H.set q x ++ [c])[H.length]? = some c := fun x c => by rw [List.getElem?_append_right (by simp)]; simp
    have e7 : IntKind.i64.wrap ((i : Int) + 1) = ((i + 1 : Nat) : Int) := by rw [w64 (by omega) (by omega)]; rfl
    simp only [List.flatMap_cons, List.map_cons]
    have hbx : bxL ((n : Int), o) = .cells (.int .i64 (n : Int) :: encR (repL ((n : Int), o))) := rfl
    rw [hbx]
    have hen : enL1 ((n : Int), o) = num n ++ (if 0 < (n : Int) then num (bytR (repL ((n : Int), o))).length ++ bytR (repL ((n : Int), o)) else []) := by simp only [enL1, Int.toNat_natCast]
    rw [hen]
    generalize repL ((n : Int), o) = r at *
    simp only [encR] at ht hby ⊢
    by_cases h0 : 0 < (n : Int)
    · have e0 : decide ((n : Int) > 0) = true := decide_eq_true h0
      rw [if_pos h0]
      have ih' := ih (i + 1) (H.set q (Pn (w ++ num n ++ num (bytR r).length ++ bytR r)) ++ [.cells [.int .i64 (n : Int), .int .i64 r.e, .int .i64 r.n, .sl .sh (r.text.map encB), .str ⟨r.cat.toArray⟩, .sl .sh (r.label.map encE), .sl .sh (r.kids.map encK)]]) (w ++ num n ++ num (bytR r).length ++ bytR r) (by omega) (hgp _ _) (by simp only [List.length_append]; omega)
      rw [hsl] at ih'
      simp only [List.append_assoc] at ih' t1 t2
      rw [lp_round]
      simp (maxSteps := 2000000) -implicitDefEqProofs (disch := (refine id_ok ?_; first | assumption | omega | (simp only [go_sem, List.length_map, List.length_append, List.length_take, List.length_drop, mrLL_app, keyD_i, keyD_s, keyD_b, Nat.reduceAdd, Nat.reduceEqDiff, Nat.reduceLeDiff] <;> omega) | with_unfolding_all rfl | decide)) only [go_sem, Nat.reduceAdd, Nat.reduceSub, Nat.reduceMul, Nat.reduceLeDiff, Nat.reduceEqDiff, Nat.reduceBEq, reduceIte, reduceCtorEq, hd', Int.toNat_natCast, ht, hle, t1, t2, gH, e0, hby, e7]
      refine ih'.trans ?_
      simp [List.append_assoc]
    · have e0 : decide ((n : Int) > 0) = false := decide_eq_false h0
      rw [if_neg h0]
      have ih' := ih (i + 1) (H.set q (Pn (w ++ num n)) ++ [.cells [.int .i64 (n : Int), .int .i64 r.e, .int .i64 r.n, .sl .sh (r.text.map encB), .str ⟨r.cat.toArray⟩, .sl .sh (r.label.map encE), .sl .sh (r.kids.map encK)]]) (w ++ num n) (by omega) (hgp _ _) (by simp only [List.length_append]; omega)
      rw [hsl] at ih'
      simp only [List.append_assoc] at ih' t1
      rw [lp_round]
      simp (maxSteps := 2000000) -implicitDefEqProofs (disch := (refine id_ok ?_; first | assumption | omega | (simp only [go_sem, List.length_map, List.length_append, List.length_take, List.length_drop, mrLL_app, keyD_i, keyD_s, keyD_b, Nat.reduceAdd, Nat.reduceEqDiff, Nat.reduceLeDiff] <;> omega) | with_unfolding_all rfl | decide)) only [go_sem, Nat.reduceAdd, Nat.reduceSub, Nat.reduceMul, Nat.reduceLeDiff, Nat.reduceEqDiff, Nat.reduceBEq, reduceIte, reduceCtorEq, hd', Int.toNat_natCast, ht, hle, t1, gH, e0, e7]
      refine ih'.trans ?_
      simp [List.append_assoc]
theorem bput_run {p q : Nat} {b : List Ln} {w : List UInt8} {h : AH} (hp : h[p]? = some (Bk b)) (hq : h[q]? = some (Pn w)) (hb : b.length = 8) (hs : ∀ l ∈ b, (0 ≤ l.1 ∧ l.1 ≤ 1048576) ∧ okR (repL l)) (hw : w.length ≤ 10000000) :
    run T 59 [.box p 0, .box q 0] h = some (.tup [], h.set q (Pn (w ++ b.flatMap enL1))) := by
  have h1 := bput_loop hb hs 8 0 h w rfl hq (by omega)
  rw [List.drop_zero] at h1
  simp only [show ((0 : Nat) : Int) = 0 from rfl] at h1
  have hle : Nat.ble 56 (b.flatMap encL).length = true := by rw [flat_len, hb]; rfl
  have htk : (b.flatMap encL).take 56 = b.flatMap encL := List.take_of_length_le (by rw [flat_len]; omega)
  rw [run_code T_59]
  simp (maxSteps := 2000000) -implicitDefEqProofs (disch := (refine id_ok ?_; first | assumption | omega | (simp only [go_sem, List.length_map, List.length_append, List.length_take, List.length_drop, mrLL_app, keyD_i, keyD_s, keyD_b, Nat.reduceAdd, Nat.reduceEqDiff, Nat.reduceLeDiff] <;> omega) | with_unfolding_all rfl | decide)) only [go_sem, Nat.reduceAdd, Nat.reduceSub, Nat.reduceMul, Nat.reduceLeDiff, Nat.reduceEqDiff, Nat.reduceBEq, reduceIte, reduceCtorEq, c_clients_Book_Put, hp, Bk, hle, htk, List.drop_zero, shL_Bk, h1]
  exact gc_dropS rfl mrB_Pn
theorem byts_run {p : Nat} {b : List Ln} {h : AH} (hp : h[p]? = some (Bk b)) (hb : b.length = 8) (hs : ∀ l ∈ b, (0 ≤ l.1 ∧ l.1 ≤ 1048576) ∧ okR (repL l)) :
    run T 32 [.box p 0] h = some (.str ⟨(b.flatMap enL1).toArray⟩, h) := by
  have hlt : p < h.length := (List.getElem?_eq_some_iff.1 hp).1
  have h1 := bput_run (p := p) (q := h.length) (b := b) (w := []) (h := h ++ [Pn []]) (by rw [List.getElem?_append_left hlt]; exact hp) (by simp) hb hs (by simp)
  simp only [app_set0, List.set_cons_zero, List.nil_append] at h1
  have hfl : (b.flatMap enL1).length ≤ 100000 := by
    have := flatMap_len (f := enL1) (k := 3000) b (fun l hl => by
      have h2 := (hs l hl).1
      have n1 := num_len (n := l.1.toNat) (by omega)
      have hbl := bytR_len (repL l)
      have n2 := num_len (n := (bytR (repL l)).length) (by omega)
      unfold enL1
      split
      · simp only [List.length_append]; omega
      · simp only [List.length_append, List.length_nil]; omega)
    omega
  have h2 := pbytes_run (p := h.length) (l := b.flatMap enL1) (h := h ++ [Pn (b.flatMap enL1)]) (by simp) (by omega)
  rw [run_code T_32]
  simp (maxSteps := 2000000) -implicitDefEqProofs (disch := (refine id_ok ?_; first | assumption | omega | (simp only [go_sem, List.length_map, List.length_append, List.length_take, List.length_drop, mrLL_app, keyD_i, keyD_s, keyD_b, Nat.reduceAdd, Nat.reduceEqDiff, Nat.reduceLeDiff] <;> omega) | with_unfolding_all rfl | decide)) only [go_sem, Nat.reduceAdd, Nat.reduceSub, Nat.reduceMul, Nat.reduceLeDiff, Nat.reduceEqDiff, Nat.reduceBEq, reduceIte, reduceCtorEq, c_regencylaw17_bytes, show Bx.cells [ow []] = Pn [] from rfl, h1, h2]
/-! ### a clone -/
def cpL (l : Ln) : Ln := (l.1, some (copR (repL l)))
def clB (b : List Ln) (i : Nat) : List Ln := (b.take i).map cpL ++ (b.drop i).map fun l => (l.1, some (repL l))
theorem ovl_cons {X Y : List AV} {k : Nat} {a : AV} (h : X[k]? = some a) : ovl X (k + 1) Y = ovl X k (a :: Y) := by
  obtain ⟨hk, rfl⟩ := List.getElem?_eq_some_iff.1 h
  simp only [ovl, List.length_cons]
  rw [List.take_succ_eq_append_getElem hk, show k + 1 + Y.length = k + (Y.length + 1) by omega, List.append_assoc (X.take k), List.singleton_append]
theorem clB_len {b : List Ln} {i : Nat} (hi : i ≤ b.length) : (clB b i).length = b.length := by simp [clB]; omega
theorem clB_ix {b : List Ln} {i : Nat} (hi : i < b.length) : i - ((b.take i).map cpL).length = 0 := by simp; omega
theorem clB_set {b : List Ln} {i : Nat} (hi : i < b.length) : (clB b i).set i (cpL b[i]) = clB b (i + 1) := by
  unfold clB
  rw [List.set_append_right _ _ (by simp; omega), clB_ix hi, List.take_succ_eq_append_getElem hi, List.drop_eq_getElem_cons hi, List.map_cons, List.set_cons_zero, List.map_append, List.map_cons, List.map_nil, List.append_assoc, List.singleton_append]
theorem clB_get {b : List Ln} {i : Nat} (hi : i < b.length) : (clB b i)[i]? = some (b[i].1, some (repL b[i])) := by
  unfold clB
  rw [List.getElem?_append_right (by simp; omega), clB_ix hi, List.drop_eq_getElem_cons hi, List.map_cons]
  rfl
set_option maxHeartbeats 4000000 in
theorem clone_loop {h : AH} {b : List Ln} (hb : b.length = 8) (hs : ∀ l ∈ b, okR (repL l)) : ∀ (d i : Nat) (js : AH), d + i = 8 →
    den T (.loop l_clients_Book_Clone_0) (s_clients_Book_Clone_0 (.box h.length 0) (.agg ((shb b).flatMap encL)) (.int .i64 i)) (h ++ Bk (clB b i) :: js) = some (.exit 0, x_clients_Book_Clone_0 (.box h.length 0), h ++ Bk (b.map cpL) :: (js ++ (b.drop i).map bxL)) := by
  intro d
  induction d with
  | zero =>
    intro i js hd
    have hd' : decide ((i : Int) < 8) = false := decide_eq_false (by omega)
    have e : clB b i = b.map cpL := by unfold clB; rw [List.drop_eq_nil_of_le (by omega), List.take_of_length_le (by omega)]; simp
    rw [List.drop_eq_nil_of_le (by omega), e, List.map_nil, List.append_nil]
    rw [lp_round]
    simp -implicitDefEqProofs (disch := (refine id_ok ?_; first | assumption | omega | (simp only [go_sem, List.length_map, List.length_append, List.length_take, List.length_drop, mrLL_app, keyD_i, keyD_s, keyD_b, Nat.reduceAdd, Nat.reduceEqDiff, Nat.reduceLeDiff] <;> omega) | with_unfolding_all rfl | decide)) only [go_sem, Nat.reduceAdd, Nat.reduceSub, Nat.reduceMul, Nat.reduceLeDiff, Nat.reduceEqDiff, Nat.reduceBEq, reduceIte, reduceCtorEq, hd']
  | succ d ih =>
    intro i js hd
    have hib : i < b.length := by omega
    have hd' : decide ((i : Int) < 8) = true := decide_eq_true (by omega)
    have hk : i < (shb b).length := by simp [shb]; omega
    have ht := flat_take (b := shb b) (i := i) hk
    have hle : Nat.ble (i * 7 + 7) ((shb b).flatMap encL).length = true := by rw [flat_len]; exact Nat.ble_eq_true_of_le (by simp [shb]; omega)
    have hge : (shb b)[i] = (b[i].1, some (repL b[i])) := by simp [shb]
    rw [hge] at ht
    have hle2 : Nat.ble (i * 7 + 1 + 6) ((clB b i).flatMap encL).length = true := by rw [flat_len, clB_len (by omega)]; exact Nat.ble_eq_true_of_le (by omega)
    have hki : i < (clB b i).length := by rw [clB_len (by omega)]; omega
    have hg0 := flat_get (b := clB b i) (i := i) (k := 0) hki (by omega)
    have hcg := clB_get hib
    rw [List.getElem?_eq_getElem hki, Option.some.injEq] at hcg
    rw [hcg, Nat.add_zero, encL_0] at hg0
    have hov := flat_ovl (b := clB b i) (i := i) (cpL b[i]) hki
    rw [clB_set hib] at hov
    have hc := copR_run (hs b[i] (by simp))
    have hdr : b.drop i = b[i] :: b.drop (i + 1) := List.drop_eq_getElem_cons hib
    rw [hdr, List.map_cons]
    have ih' := ih (i + 1) (js ++ [bxL b[i]]) (by omega)
    have hbx : bxL b[i] = .cells (.int .i64 b[i].1 :: encR (repL b[i])) := rfl
    have hcp : encL (cpL b[i]) = .int .i64 b[i].1 :: encR (copR (repL b[i])) := rfl
    have henc : encL (b[i].1, some (repL b[i])) = .int .i64 b[i].1 :: encR (repL b[i]) := rfl
    rw [henc] at ht
    rw [hcp, ← ovl_cons hg0] at hov
    rw [hbx] at ih' ⊢
    generalize b[i] = l at *
    obtain ⟨n, o⟩ := l
    simp only at *
    generalize repL (n, o) = r at *
    generalize copR r = q at *
    have e7 : IntKind.i64.wrap ((i : Int) + 1) = ((i + 1 : Nat) : Int) := by rw [w64 (by omega) (by omega)]; rfl
    have hlJ : ∀ X : Bx, (h ++ X :: js).length = h.length + (1 + js.length) := fun X => by simp; omega
    have gJ : ∀ a c : Bx, (a :: (js ++ [c]))[1 + js.length]? = some c := fun a c => by rw [Nat.add_comm]; simp
    have sJ : ∀ a c x : Bx, (a :: (js ++ [c])).set (1 + js.length) x = a :: (js ++ [x]) := fun a c x => by rw [Nat.add_comm]; simp
    simp only [encR, List.append_assoc, List.singleton_append] at ih' hc ht hov ⊢
    simp only [ovl, List.cons_append, List.nil_append, List.length_cons, List.length_nil, List.append_assoc, Nat.zero_add, Nat.reduceAdd] at hov
    rw [lp_round]
    simp (maxSteps := 2000000) -implicitDefEqProofs (disch := (refine id_ok ?_; first | assumption | omega | (simp only [go_sem, List.length_map, List.length_append, List.length_take, List.length_drop, mrLL_app, keyD_i, keyD_s, keyD_b, Nat.reduceAdd, Nat.reduceEqDiff, Nat.reduceLeDiff] <;> omega) | with_unfolding_all rfl | decide)) only [go_sem, Nat.reduceAdd, Nat.reduceSub, Nat.reduceMul, Nat.reduceLeDiff, Nat.reduceEqDiff, Nat.reduceBEq, reduceIte, reduceCtorEq, hd', Int.toNat_natCast, ht, hle, hlJ, gJ, sJ, app_get, app_set, app_get0, app_set0, hc, Bk, hle2, e7]
    rw [hov]
    exact ih'
theorem ones_Bk : ∀ b : List Ln, onesL (b.flatMap encL) = true
  | [] => rfl
  | (n, none) :: b => by
    have ih := ones_Bk b
    rw [List.flatMap_cons]; exact ih
  | (n, some r) :: b => by
    have ih := ones_Bk b
    rw [List.flatMap_cons]; exact ih
theorem bclone_run {p : Nat} {b : List Ln} {h : AH} (hp : h[p]? = some (Bk b)) (hb : b.length = 8) (hs : ∀ l ∈ b, okR (repL l)) :
    run T 30 [.box p 0] h = some (.box h.length 0, h ++ Bk (b.map cpL) :: b.map bxL) := by
  have hlt : p < h.length := (List.getElem?_eq_some_iff.1 hp).1
  have gp : ∀ js : AH, (h ++ js)[p]? = some (Bk b) := fun js => by rw [List.getElem?_append_left hlt]; exact hp
  have h1 := clone_loop (h := h) hb hs 8 0 [] rfl
  have h0 : clB b 0 = shb b := rfl
  rw [List.drop_zero, h0] at h1
  simp only [show ((0 : Nat) : Int) = 0 from rfl, List.nil_append] at h1
  have hle : Nat.ble 56 (b.flatMap encL).length = true := by rw [flat_len, hb]; rfl
  have htk : (b.flatMap encL).take 56 = b.flatMap encL := List.take_of_length_le (by rw [flat_len]; omega)
  have hst : ∀ cs : List AV, cs.length = 56 → storeB 56 0 (.agg ((shb b).flatMap encL)) (some (.cells cs)) = some (.cells ((shb b).flatMap encL)) := by
    intro cs hcs
    have hlen : ((shb b).flatMap encL).length = 56 := by rw [flat_len]; simp [shb]; omega
    have h0 : Nat.ble (0 + 56) cs.length = true := by rw [hcs]; rfl
    rw [stB_some (v := .agg ((shb b).flatMap encL)) (N := 56) (off := 0) h0 hlen (ones_Bk _)]
    simp only [AV.cells, ovl, List.take_zero, List.nil_append, hlen, Nat.zero_add]
    rw [List.drop_eq_nil_of_le (by omega), List.append_nil]
  simp only [Bk] at h1
  rw [run_code T_30]
  simp (maxSteps := 2000000) -implicitDefEqProofs (disch := (refine id_ok ?_; first | assumption | omega | (simp only [go_sem, List.length_map, List.length_append, List.length_take, List.length_drop, mrLL_app, keyD_i, keyD_s, keyD_b, Nat.reduceAdd, Nat.reduceEqDiff, Nat.reduceLeDiff] <;> omega) | with_unfolding_all rfl | decide)) only [go_sem, Nat.reduceAdd, Nat.reduceSub, Nat.reduceMul, Nat.reduceLeDiff, Nat.reduceEqDiff, Nat.reduceBEq, reduceIte, reduceCtorEq, c_clients_Book_Clone, hp, gp, Bk, hle, htk, List.drop_zero, shL_Bk, app_get, app_set, app_get0, app_set0, hst, h1]
  rw [gc_keep (by simp only [AV.mr, mrL]; omega)]
end Go.Proofs.YtjeigcnaalleiaaDoor.L
