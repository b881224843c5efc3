/- Regions whose order is drawn: their last check, by rewriting. Books that are nil. -/
import Derived.Test.YtjeigcnaalleiaaGreatDoorL47
set_option linter.all false
set_option maxRecDepth 100000
namespace Go.Proofs.YtjeigcnaalleiaaGreatDoor.L
open Go.Proofs.YtjeigcnaalleiaaGreatDoor.M Go.Proofs.YtjeigcnaalleiaaGreatDoor.F Go.Proofs

section
variable {S : List Nat} {E : List (AH × AH)} {h h' : AH} {σ : List AV} {o : CO} {d : Option Nat} {m : Option Nat} {x : Opd} {g : Option (Nat × Bool)} {f : FuncId} {xs : List Opd}
def gVV (v : Option AV) (w : Bool) : Option Bool := match v with | some (.bool b) => some (b == w) | some .any => none | _ => some false
def addSL (b : Option Bool) (v : AV) (S : List Nat) : List Nat := match b, v with | some true, .box id _ => id :: S | some true, .mp id => id :: S | _, _ => S
theorem adE_f : addE (o, false) h h' E = E := rfl
theorem adE_l : addE (⟨d, .load m x, g⟩, true) h h' E = E := rfl
theorem adE_c : addE (⟨d, .call f xs, g⟩, true) h h' E = (h, h') :: E := rfl
theorem adS_f : addS (o, false) σ S = S := rfl
theorem adS_c : addS (⟨d, .call f xs, g⟩, true) σ S = S := rfl
theorem adS_l : addS (⟨d, .load m x, g⟩, true) σ S = addSL (gV σ g) (evalO σ x) S := by
  simp only [addS, addSL, isL, Bool.and_self, if_true, loadOpd]
  cases gV σ g with
  | none => rfl
  | some b => cases b <;> rfl
theorem gV_n : gV σ none = some true := rfl
theorem gV_s {s : Nat} {w : Bool} : gV σ (some (s, w)) = gVV σ[s]? w := by
  simp only [gV, gVV]
  cases σ[s]? with
  | none => rfl
  | some v => cases v <;> rfl
theorem gVV_b {b w : Bool} : gVV (some (.bool b)) w = some (b == w) := rfl
theorem aSL_b {id off : Nat} : addSL (some true) (.box id off) S = id :: S := rfl
theorem all_nil : (∀ e ∈ ([] : List (AH × AH)), sameS S e.1 e.2) = True := by simp
theorem all_cons {e : AH × AH} : (∀ e' ∈ e :: E, sameS S e'.1 e'.2) = (sameS S e.1 e.2 ∧ ∀ e' ∈ E, sameS S e'.1 e'.2) := by simp
theorem same_self : sameS S h h = True := by simp [sameS]
theorem same_nil : sameS [] h h' = True := by simp [sameS]
theorem same_cons {i : Nat} : sameS (i :: S) h h' = (h'[i]? = h[i]? ∧ sameS S h h') := by simp [sameS]
end
attribute [go_sem] adE_f adE_l adE_c adS_f adS_c adS_l gV_n gV_s gVV_b aSL_b same_self same_nil same_cons
attribute [go_sem ↓] all_nil all_cons
example {S : List Nat} {h : AH} {id : Nat} : ∀ e ∈ [(h, h)], sameS (id :: S) e.1 e.2 := by simp only [go_sem]
theorem verN_run {c n : Int} {h : AH} : run T 9 [.nilp, .int .i64 c, .int .i64 n] h = some (.int .i64 4, h) := by
  rw [run_code T_9]
  simp -implicitDefEqProofs (disch := (refine id_ok ?_; first | assumption | omega | (simp only [go_sem, List.size_toArray, List.length_map, List.length_append, List.length_take, List.length_drop, List.length_cons, List.length_nil, mrLL_app, keyD_i, keyD_s, keyD_b, Nat.reduceAdd, Nat.reduceEqDiff, Nat.reduceLeDiff] <;> omega) | with_unfolding_all rfl | decide)) only [go_sem, Nat.reduceAdd, Nat.reduceSub, Nat.reduceMul, Nat.reduceLeDiff, Nat.reduceEqDiff, Nat.reduceBEq, reduceIte, reduceCtorEq, c_clients_Book_Verdict]
theorem notN_run {c n : Int} {r : Rep} {h : AH} : run T 12 [.nilp, .int .i64 c, .int .i64 n, .agg (encR r)] h = some (.int .i64 1, h) := by
  rw [run_code T_12]
  simp -implicitDefEqProofs (disch := (refine id_ok ?_; first | assumption | omega | (simp only [go_sem, List.size_toArray, List.length_map, List.length_append, List.length_take, List.length_drop, List.length_cons, List.length_nil, mrLL_app, keyD_i, keyD_s, keyD_b, Nat.reduceAdd, Nat.reduceEqDiff, Nat.reduceLeDiff] <;> omega) | with_unfolding_all rfl | decide)) only [go_sem, Nat.reduceAdd, Nat.reduceSub, Nat.reduceMul, Nat.reduceLeDiff, Nat.reduceEqDiff, Nat.reduceBEq, reduceIte, reduceCtorEq, c_clients_Book_Note, encR]
theorem cloN_run {h : AH} : run T 17 [.nilp] h = some (.nilp, h) := by
  rw [run_code T_17]
  simp -implicitDefEqProofs (disch := (refine id_ok ?_; first | assumption | omega | (simp only [go_sem, List.size_toArray, List.length_map, List.length_append, List.length_take, List.length_drop, List.length_cons, List.length_nil, mrLL_app, keyD_i, keyD_s, keyD_b, Nat.reduceAdd, Nat.reduceEqDiff, Nat.reduceLeDiff] <;> omega) | with_unfolding_all rfl | decide)) only [go_sem, Nat.reduceAdd, Nat.reduceSub, Nat.reduceMul, Nat.reduceLeDiff, Nat.reduceEqDiff, Nat.reduceBEq, reduceIte, reduceCtorEq, c_clients_Book_Clone]
theorem putN_run {q : Nat} {h : AH} : run T 34 [.nilp, .box q 0] h = some (.tup [], h) := by
  rw [run_code T_34]
  simp -implicitDefEqProofs (disch := (refine id_ok ?_; first | assumption | omega | (simp only [go_sem, List.size_toArray, List.length_map, List.length_append, List.length_take, List.length_drop, List.length_cons, List.length_nil, mrLL_app, keyD_i, keyD_s, keyD_b, Nat.reduceAdd, Nat.reduceEqDiff, Nat.reduceLeDiff] <;> omega) | with_unfolding_all rfl | decide)) only [go_sem, Nat.reduceAdd, Nat.reduceSub, Nat.reduceMul, Nat.reduceLeDiff, Nat.reduceEqDiff, Nat.reduceBEq, reduceIte, reduceCtorEq, c_clients_Book_Put]
theorem bytN_run {h : AH} : run T 13 [.nilp] h = some (.str ⟨#[]⟩, h) := by
  have h1 := putN_run (q := h.length) (h := h ++ [Pn []])
  have h2 := pbytes_run (p := h.length) (l := []) (h := h ++ [Pn []]) (by simp) (by simp)
  have h3 : bytesV (ow []) = some (.str ⟨#[]⟩) := rfl
  simp only [List.map_nil] at h2
  rw [run_code T_13]
  simp -implicitDefEqProofs (disch := (refine id_ok ?_; first | assumption | omega | (simp only [go_sem, List.size_toArray, List.length_map, List.length_append, List.length_take, List.length_drop, List.length_cons, List.length_nil, mrLL_app, keyD_i, keyD_s, keyD_b, Nat.reduceAdd, Nat.reduceEqDiff, Nat.reduceLeDiff] <;> omega) | with_unfolding_all rfl | decide)) only [go_sem, Nat.reduceAdd, Nat.reduceSub, Nat.reduceMul, Nat.reduceLeDiff, Nat.reduceEqDiff, Nat.reduceBEq, reduceIte, reduceCtorEq, c_regencylaw17_bytes, show Bx.cells [ow []] = Pn [] from rfl, h1, h2, h3]
end Go.Proofs.YtjeigcnaalleiaaGreatDoor.L

/- BookPlays: the law's loop. -/
set_option linter.all false
set_option maxRecDepth 100000
namespace Go.Proofs.YtjeigcnaalleiaaGreatDoor.L
open Go.Proofs.YtjeigcnaalleiaaGreatDoor.M Go.Proofs.YtjeigcnaalleiaaGreatDoor.F Go.Proofs

/-- An operation of bounded size. -/
def okO (o : Opn) : Prop := o.2.2.text.length ≤ 1048576 ∧ o.2.2.cat.length ≤ 1048576 ∧ o.2.2.label.length ≤ 1048576 ∧ (∀ e ∈ o.2.2.label, e.1.length ≤ 1048576) ∧ o.2.2.kids.length ≤ 1048576
theorem okO_R {o : Opn} (h : okO o) (h2 : o.2.2.kids.length ≤ 1000000) : okR o.2.2 := ⟨h2, by have := h.2.1; omega, fun e he => by have := h.2.2.2.1 e he; omega⟩
theorem ver0 {b : List Ln} {c n : Int} {js : AH} (hb : b.length = 8) (hok : ∀ l ∈ b, okL l) : run T 9 [.box 0 0, .int .i64 c, .int .i64 n] (Bk b :: js) = some (.int .i64 (verB b c n), Bk b :: js) :=
  ver_run rfl hb fun l hl => okL_n (hok l hl)
theorem lst0 {b : List Ln} {c : Int} {js : AH} (hb : b.length = 8) (hok : ∀ l ∈ b, okL l) : run T 15 [.box 0 0, .int .i64 c] (Bk b :: js) = some (.tup [.int .i64 (lstB b c).1, .agg (encR (lstB b c).2)], Bk b :: js) :=
  lst_run rfl hb fun l hl => okL_R (hok l hl)
theorem not0 {b : List Ln} {c n : Int} {r : Rep} {js : AH} (hb : b.length = 8) (hok : ∀ l ∈ b, okL l) (ho : okR r) : run T 12 [.box 0 0, .int .i64 c, .int .i64 n, .agg (encR r)] (Bk b :: js) = some (.int .i64 (notB b c n r).1, Bk (notB b c n r).2 :: js) :=
  not_run (p := 0) (h := Bk b :: js) rfl hb (fun l hl => okL_n (hok l hl)) ho
theorem byt0 {b : List Ln} {js : AH} (hb : b.length = 8) (hok : ∀ l ∈ b, okL l) : run T 13 [.box 0 0] (Bk b :: js) = some (.str ⟨(b.flatMap enL1).toArray⟩, Bk b :: js) :=
  byts_run rfl hb fun l hl => ⟨okL_n (hok l hl), okL_R (hok l hl)⟩
theorem verB_shb (b : List Ln) (c n : Int) : verB (shb b) c n = verB b c n := by
  unfold verB shb
  rw [List.getElem?_map]
  cases b[c.toNat]? <;> rfl
theorem notB_shb (b : List Ln) (c n : Int) (r : Rep) : (notB (shb b) c n r).1 = (notB b c n r).1 := by
  unfold notB
  rw [verB_shb]
  split
  · rfl
  · split
    · rfl
    · split <;> rfl
theorem shb_set (b : List Ln) (k : Nat) (l : Ln) : shb (b.set k l) = (shb b).set k (l.1, some (repL l)) := by unfold shb; rw [List.map_set]
theorem rnotB_shb (b : List Ln) (c n : Int) (r : Rep) : rnotB (shb b) c n r = shb (notB b c n r).2 := by
  unfold rnotB
  rw [notB_shb]
  unfold notB
  by_cases h4 : verB b c n = 4 ∨ rigR r = false
  · rw [if_pos h4, if_neg (by simp)]
  rw [if_neg h4]
  simp only [not_or, Bool.not_eq_false] at h4
  by_cases h12 : verB b c n = 1 ∨ verB b c n = 2
  · rw [if_pos h12, if_neg (by simp)]
  rw [if_neg h12]
  by_cases h3 : verB b c n = 3
  · rw [if_pos h3, if_neg (by simp)]
  rw [if_neg h3, if_pos rfl]
  simp only
  rw [shb_set, copR_right h4.2]; rfl
theorem enL1_shb : ∀ b : List Ln, (shb b).flatMap enL1 = b.flatMap enL1
  | [] => rfl
  | l :: b => by
    have ih := enL1_shb b
    unfold shb at ih ⊢
    rw [List.map_cons, List.flatMap_cons, List.flatMap_cons, ih]
    rfl
theorem okL_cop {l : Ln} (h : okL l) : copR (repL l) = repL l := by
  rcases h with rfl | ⟨n, r, rfl, _, _, hr⟩
  · exact copR_right (r := zeroR) (by decide)
  · exact copR_right hr
theorem okL_rig {l : Ln} (h : okL l) : rigR (repL l) = true := by
  rcases h with rfl | ⟨n, r, rfl, _, _, hr⟩
  · decide
  · exact hr
theorem lst_in {b : List Ln} {k : Nat} (hb : b.length = 8) (hk : k < b.length) (hok : ∀ l ∈ b, okL l) : lstB b k = (b[k].1, repL b[k]) := by
  unfold lstB
  rw [if_pos ⟨by omega, by omega⟩, Int.toNat_natCast, List.getElem?_eq_getElem hk]
  simp only
  rw [okL_cop (hok _ (by simp))]
theorem lst_out {b : List Ln} {c : Int} (hc : ¬ (0 ≤ c ∧ c < 8)) : lstB b c = (0, zeroR) := by unfold lstB; rw [if_neg hc]
def x0 : List AV := [.int .i64 0, .int .i64 0, .int .i64 0, .int .i64 0, .int .i64 0, .int .i64 0, .int .i64 0, .int .i64 0, .int .i64 0, .int .i64 0, ow [], .str ⟨#[]⟩, ow [], ow [], .int .i64 0, .int .i64 0, ow [], .str ⟨#[]⟩, ow [], ow [], .int .i64 0, .int .i64 0, ow [], .str ⟨#[]⟩, ow [], ow [], .int .i64 0, .int .i64 0, ow [], .str ⟨#[]⟩, ow [], ow [], .int .i64 0, .int .i64 0, ow [], .str ⟨#[]⟩, ow [], ow [], .int .i64 0, .int .i64 0, ow [], .str ⟨#[]⟩, ow [], ow [], .int .i64 0, .int .i64 0, ow [], .str ⟨#[]⟩, ow [], ow [], .int .i64 0, .int .i64 0, ow [], .str ⟨#[]⟩, ow [], ow []]
theorem x0_eq : x0 = xO newB := rfl
end Go.Proofs.YtjeigcnaalleiaaGreatDoor.L
