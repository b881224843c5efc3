/- Heaps: their bytes; puts on both sides; a new one of the document's. -/
import Derived.Test.YtgmhbncbmpahjaaL91
set_option linter.all false
set_option maxRecDepth 100000
namespace Go.Proofs.Ytgmhbncbmpahjaa.L
open Go.Proofs.Ytgmhbncbmpahjaa.M Go.Proofs.Ytgmhbncbmpahjaa.F Go.Proofs

theorem str_app {a b : List UInt8} : (⟨a.toArray⟩ : ByteArray) ++ (⟨b.toArray⟩ : ByteArray) = ⟨(a ++ b).toArray⟩ := by
  apply ByteArray.ext
  simp [ByteArray.data_append]
theorem gdset {σ : List AV} {i j : Nat} {v d : AV} (h : (i == j) = false) : (σ.set i v).getD j d = σ.getD j d := by
  have : i ≠ j := by simpa using h
  simp only [List.getD, List.getElem?_set_ne this]
def bysR (d : Int) (hs : List Bool) (ps : List (List UInt8)) : List UInt8 × Int :=
  if hs.count false ≠ 0 then ([], 41) else if (ofB ps.flatten : Int) ≠ d then ([], 12) else (ps.flatten, 0)
theorem flat_len {ps : List (List UInt8)} (h : ∀ c ∈ ps, c.length ≤ 512) : ps.flatten.length ≤ 512 * ps.length := by
  induction ps with
  | nil => simp
  | cons a ps ih =>
    have h1 := h a (by simp)
    have h2 := ih fun c hc => h c (List.mem_cons_of_mem _ hc)
    simp only [List.flatten_cons, List.length_append, List.length_cons]; omega
section
variable {h : AH} {p m q a b n : Nat} {l s d : Int} {es : Es} {hs : List Bool} {ps : List (List UInt8)}
theorem pby_loop (hh : heapAt h p m l s d es) (hR : Rel n es hs ps) (hall : ∀ x ∈ hs, x = true) (hsz : ∀ c ∈ ps, c.length ≤ 512) (hn5 : n ≤ 5000) : ∀ (dd i : Nat) (B : List UInt8), dd + i = n → B.length ≤ 512 * i →
    den T (.loop l_chunk_Heap_Bytes_0) (s_chunk_Heap_Bytes_0 (.box p 0) (ow (B.map encB)) (.int .i64 n) (.int .i64 i)) h = some (.exit 1, x_chunk_Heap_Bytes_1 (.box p 0) (ow ((B ++ (ps.drop i).flatten).map encB)), h) := by
  obtain ⟨hp, hm⟩ := hh
  intro dd
  induction dd with
  | zero =>
    intro i B hd hB
    have hd' : decide ((i : Int) < n) = false := decide_eq_false (by omega)
    have := hR.pl
    rw [List.drop_eq_nil_of_le (by omega), List.flatten_nil, List.append_nil]
    rw [lp_round]
    simp -implicitDefEqProofs (disch := (refine id_ok ?_; first | assumption | omega | (simp only [go_sem, List.size_toArray, List.length_map, List.length_append, List.length_take, List.length_drop, List.length_cons, List.length_nil, mrLL_app, keyD_i, keyD_s, keyD_b, Nat.reduceAdd, Nat.reduceEqDiff, Nat.reduceLeDiff] <;> omega) | with_unfolding_all rfl | decide)) only [go_sem, Nat.reduceAdd, Nat.reduceSub, Nat.reduceMul, Nat.reduceLeDiff, Nat.reduceEqDiff, Nat.reduceBEq, reduceIte, reduceCtorEq, hd']
  | succ dd ih =>
    intro i B hd hB
    have hih : i < hs.length := by rw [hR.hl]; omega
    have hip : i < ps.length := by rw [hR.pl]; omega
    have hd' : decide ((i : Int) < n) = true := decide_eq_true (by omega)
    have hsi : hs[i]? = some true := by rw [List.getElem?_eq_getElem hih, hall _ (List.getElem_mem hih)]
    obtain ⟨k, c, hf, hc⟩ := hR.yes i hsi
    have hpc : ps[i] = c := by rw [List.getElem?_eq_getElem hip] at hc; exact Option.some.inj hc
    have hdr : ps.drop i = c :: ps.drop (i + 1) := by rw [List.drop_eq_getElem_cons hip, hpc]
    have hc5 : c.length ≤ 512 := by rw [← hpc]; exact hsz _ (List.getElem_mem hip)
    have hfa := findA_en (i : Int) es 0
    rw [hf, Option.map_some] at hfa
    have e7 := inc91 (n := i) (by omega)
    have ih' := ih (i + 1) (B ++ c) (by omega) (by rw [List.length_append]; omega)
    rw [hdr, List.flatten_cons, ← List.append_assoc]
    rw [lp_round]
    simp (maxSteps := 2000000) -implicitDefEqProofs (disch := (refine id_ok ?_; first | assumption | omega | (simp only [go_sem, List.size_toArray, List.length_map, List.length_append, List.length_take, List.length_drop, List.length_cons, List.length_nil, mrLL_app, keyD_i, keyD_s, keyD_b, Nat.reduceAdd, Nat.reduceEqDiff, Nat.reduceLeDiff] <;> omega) | with_unfolding_all rfl | decide)) only [go_sem, Nat.reduceAdd, Nat.reduceSub, Nat.reduceMul, Nat.reduceLeDiff, Nat.reduceEqDiff, Nat.reduceBEq, reduceIte, reduceCtorEq, hd', hp, hm, hfa, encF, e7, ← List.map_append]
    rw [List.append_assoc B c] at ih'
    exact ih'
theorem pby_run (hh : heapAt h p m l s d es) (hr : rightP l s d) (hR : Rel n es hs ps) (hn : (n : Int) = cnt l s d) (hsz : ∀ c ∈ ps, c.length ≤ 512) (hn5 : n ≤ 5000) :
    run T 13 [.box p 0] h = some (.tup [ow ((bysR d hs ps).1.map encB), .int .i64 (bysR d hs ps).2], h) := by
  have hca := cnt_add hs
  have hct := hR.ct
  have hhl := hR.hl
  have hpl := hR.pl
  unfold bysR
  by_cases h0 : hs.count false = 0
  · rw [if_neg (by simpa using h0)]
    have hmis := missing_run hh hr (by omega)
    rw [show cnt l s d - (es.length : Int) = 0 by omega] at hmis
    have hc := count_run (l := l) (s := s) (d := d) (h := [])
    simp only [M.oneOf, hd] at hc
    rw [← hn] at hc
    have hq := pby_loop hh hR (all_true h0) hsz hn5 n 0 [] (by omega) (by simp)
    rw [List.drop_zero, List.nil_append, List.map_nil, show ((0 : Nat) : Int) = 0 from rfl] at hq
    have hfl := flat_len hsz
    have h1 := of_run (l := ps.flatten) (h := []) (by omega)
    obtain ⟨hp, hm⟩ := hh
    generalize ps.flatten = F at *
    rw [run_code T_13]
    by_cases hd1 : (ofB F : Int) = d
    · have e1 : ((ofB F : Int) != d) = false := by simp [hd1]
      rw [if_neg (by simpa using hd1)]
      simp (maxSteps := 2000000) -implicitDefEqProofs (disch := (refine id_ok ?_; first | assumption | omega | (simp only [go_sem, List.size_toArray, List.length_map, List.length_append, List.length_take, List.length_drop, List.length_cons, List.length_nil, mrLL_app, keyD_i, keyD_s, keyD_b, Nat.reduceAdd, Nat.reduceEqDiff, Nat.reduceLeDiff] <;> omega) | with_unfolding_all rfl | decide)) only [go_sem, Nat.reduceAdd, Nat.reduceSub, Nat.reduceMul, Nat.reduceLeDiff, Nat.reduceEqDiff, Nat.reduceBEq, reduceIte, reduceCtorEq, c_chunk_Heap_Bytes, hmis, show decide ((0 : Int) > 0) = false from rfl, hp, hc, hq, h1, e1]
    · have e1 : ((ofB F : Int) != d) = true := by simp [hd1]
      rw [if_pos hd1]
      simp (maxSteps := 2000000) -implicitDefEqProofs (disch := (refine id_ok ?_; first | assumption | omega | (simp only [go_sem, List.size_toArray, List.length_map, List.length_append, List.length_take, List.length_drop, List.length_cons, List.length_nil, mrLL_app, keyD_i, keyD_s, keyD_b, Nat.reduceAdd, Nat.reduceEqDiff, Nat.reduceLeDiff] <;> omega) | with_unfolding_all rfl | decide)) only [go_sem, Nat.reduceAdd, Nat.reduceSub, Nat.reduceMul, Nat.reduceLeDiff, Nat.reduceEqDiff, Nat.reduceBEq, reduceIte, reduceCtorEq, c_chunk_Heap_Bytes, hmis, show decide ((0 : Int) > 0) = false from rfl, hp, hc, hq, h1, e1, List.map_nil]
  · rw [if_pos h0]
    exact bytes_missing hh hr (by omega) (by omega)
theorem rby_loop (hh : RefAt h q a b l s d hs ps n) (hsz : ∀ c ∈ ps, c.length ≤ 512) (hn5 : n ≤ 5000) : ∀ (dd i : Nat) (B : List UInt8), dd + i = n → B.length ≤ 512 * i →
    ((hs.drop i).count false = 0 ∧ den T (.loop l_regencyref19_Heap_Bytes_0) (s_regencyref19_Heap_Bytes_0 (.box q 0) (.str ⟨B.toArray⟩) (.bs a 0 n (some n)) (.int .i64 n) (.int .i64 i)) h = some (.exit 0, x_regencyref19_Heap_Bytes_0 (.box q 0) (.str ⟨(B ++ (ps.drop i).flatten).toArray⟩), h)) ∨
    ((hs.drop i).count false ≠ 0 ∧ ∃ σ, den T (.loop l_regencyref19_Heap_Bytes_0) (s_regencyref19_Heap_Bytes_0 (.box q 0) (.str ⟨B.toArray⟩) (.bs a 0 n (some n)) (.int .i64 n) (.int .i64 i)) h = some (.ret, σ, h) ∧ σ.getD 2 undefA = .str ⟨#[]⟩ ∧ σ.getD 3 undefA = .int .i64 41) := by
  obtain ⟨hq, ha, hb, hl, pl⟩ := hh
  intro dd
  induction dd with
  | zero =>
    intro i B hd hB
    have hd' : decide ((i : Int) < n) = false := decide_eq_false (by omega)
    refine .inl ⟨by rw [List.drop_eq_nil_of_le (by omega)]; rfl, ?_⟩
    rw [List.drop_eq_nil_of_le (by omega), List.flatten_nil, List.append_nil]
    rw [lp_round]
    simp -implicitDefEqProofs (disch := (refine id_ok ?_; first | assumption | omega | (simp only [go_sem, List.size_toArray, List.length_map, List.length_append, List.length_take, List.length_drop, List.length_cons, List.length_nil, mrLL_app, keyD_i, keyD_s, keyD_b, Nat.reduceAdd, Nat.reduceEqDiff, Nat.reduceLeDiff] <;> omega) | with_unfolding_all rfl | decide)) only [go_sem, Nat.reduceAdd, Nat.reduceSub, Nat.reduceMul, Nat.reduceLeDiff, Nat.reduceEqDiff, Nat.reduceBEq, reduceIte, reduceCtorEq, hd']
  | succ dd ih =>
    intro i B hd hB
    have hih : i < hs.length := by omega
    have hip : i < ps.length := by omega
    have hd' : decide ((i : Int) < n) = true := decide_eq_true (by omega)
    have g1 : (hs.map AV.bool)[i]? = some (.bool hs[i]) := by simp [hih]
    have g2 : (ps.map encS)[i]? = some (.str ⟨ps[i].toArray⟩) := by simp [hip, encS]
    have hdr : hs.drop i = hs[i] :: hs.drop (i + 1) := List.drop_eq_getElem_cons hih
    have hdp : ps.drop i = ps[i] :: ps.drop (i + 1) := List.drop_eq_getElem_cons hip
    have hc5 : ps[i].length ≤ 512 := hsz _ (List.getElem_mem hip)
    have e7 := inc91 (n := i) (by omega)
    rw [hdr, hdp, List.flatten_cons]
    generalize hs[i] = x at *
    generalize ps[i] = c at *
    cases x with
    | false =>
      refine .inr ⟨by rw [List.count_cons_self]; omega, ?_⟩
      rw [lp_round]
      simp (maxSteps := 2000000) -implicitDefEqProofs (disch := (refine id_ok ?_; first | assumption | omega | (simp only [go_sem, List.size_toArray, List.length_map, List.length_append, List.length_take, List.length_drop, List.length_cons, List.length_nil, mrLL_app, keyD_i, keyD_s, keyD_b, Nat.reduceAdd, Nat.reduceEqDiff, Nat.reduceLeDiff] <;> omega) | with_unfolding_all rfl | decide)) only [go_sem, Nat.reduceAdd, Nat.reduceSub, Nat.reduceMul, Nat.reduceLeDiff, Nat.reduceEqDiff, Nat.reduceBEq, reduceIte, reduceCtorEq, hd', hq, ha, g1, ix91]
      exact ⟨_, rfl, rfl, rfl⟩
    | true =>
      rw [List.count_cons_of_ne (by simp)]
      have ih' := ih (i + 1) (B ++ c) (by omega) (by rw [List.length_append]; omega)
      have hstep : den T (.loop l_regencyref19_Heap_Bytes_0) (s_regencyref19_Heap_Bytes_0 (.box q 0) (.str ⟨B.toArray⟩) (.bs a 0 n (some n)) (.int .i64 n) (.int .i64 i)) h = den T (.loop l_regencyref19_Heap_Bytes_0) (s_regencyref19_Heap_Bytes_0 (.box q 0) (.str ⟨(B ++ c).toArray⟩) (.bs a 0 n (some n)) (.int .i64 n) (.int .i64 (i + 1 : Nat))) h := by
        rw [lp_round]
        simp (maxSteps := 2000000) -implicitDefEqProofs (disch := (refine id_ok ?_; first | assumption | omega | (simp only [go_sem, List.size_toArray, List.length_map, List.length_append, List.length_take, List.length_drop, List.length_cons, List.length_nil, mrLL_app, keyD_i, keyD_s, keyD_b, Nat.reduceAdd, Nat.reduceEqDiff, Nat.reduceLeDiff] <;> omega) | with_unfolding_all rfl | decide)) only [go_sem, Nat.reduceAdd, Nat.reduceSub, Nat.reduceMul, Nat.reduceLeDiff, Nat.reduceEqDiff, Nat.reduceBEq, reduceIte, reduceCtorEq, hd', hq, ha, hb, g1, g2, ix91, str_app, e7]
        try rfl
      rw [hstep, ← List.append_assoc]
      exact ih'
theorem rby_run (hh : RefAt h q a b l s d hs ps n) (hsz : ∀ c ∈ ps, c.length ≤ 512) (hn5 : n ≤ 5000) :
    run T 14 [.box q 0] h = some (.tup [.str ⟨(bysR d hs ps).1.toArray⟩, .int .i64 (bysR d hs ps).2], h) := by
  have hlp := rby_loop hh hsz hn5 n 0 [] (by omega) (by simp)
  obtain ⟨hq, ha, hb, hl, pl⟩ := hh
  have hfl := flat_len hsz
  simp only [List.drop_zero, show ((0 : Nat) : Int) = 0 from rfl, List.nil_append] at hlp
  have h1 := rof_run (l := ps.flatten) (h := []) (by omega)
  rw [run_code T_14]
  unfold bysR
  rcases hlp with ⟨h0, h2⟩ | ⟨h0, σ, h2, h3, h4⟩
  · rw [if_neg (by simpa using h0)]
    generalize ps.flatten = F at *
    by_cases hd1 : (ofB F : Int) = d
    · have e1 : ((ofB F : Int) != d) = false := by simp [hd1]
      rw [if_neg (by simpa using hd1)]
      simp (maxSteps := 2000000) -implicitDefEqProofs (disch := (refine id_ok ?_; first | assumption | omega | (simp only [go_sem, List.size_toArray, List.length_map, List.length_append, List.length_take, List.length_drop, List.length_cons, List.length_nil, mrLL_app, keyD_i, keyD_s, keyD_b, Nat.reduceAdd, Nat.reduceEqDiff, Nat.reduceLeDiff] <;> omega) | with_unfolding_all rfl | decide)) only [go_sem, Nat.reduceAdd, Nat.reduceSub, Nat.reduceMul, Nat.reduceLeDiff, Nat.reduceEqDiff, Nat.reduceBEq, reduceIte, reduceCtorEq, c_regencyref19_Heap_Bytes, hq, h2, h1, e1]
    · have e1 : ((ofB F : Int) != d) = true := by simp [hd1]
      rw [if_pos hd1]
      simp (maxSteps := 2000000) -implicitDefEqProofs (disch := (refine id_ok ?_; first | assumption | omega | (simp only [go_sem, List.size_toArray, List.length_map, List.length_append, List.length_take, List.length_drop, List.length_cons, List.length_nil, mrLL_app, keyD_i, keyD_s, keyD_b, Nat.reduceAdd, Nat.reduceEqDiff, Nat.reduceLeDiff] <;> omega) | with_unfolding_all rfl | decide)) only [go_sem, Nat.reduceAdd, Nat.reduceSub, Nat.reduceMul, Nat.reduceLeDiff, Nat.reduceEqDiff, Nat.reduceBEq, reduceIte, reduceCtorEq, c_regencyref19_Heap_Bytes, hq, h2, h1, e1]
  · rw [if_pos h0]
    simp (maxSteps := 2000000) -implicitDefEqProofs (disch := (refine id_ok ?_; first | assumption | omega | (simp only [go_sem, List.size_toArray, List.length_map, List.length_append, List.length_take, List.length_drop, List.length_cons, List.length_nil, mrLL_app, keyD_i, keyD_s, keyD_b, Nat.reduceAdd, Nat.reduceEqDiff, Nat.reduceLeDiff] <;> omega) | with_unfolding_all rfl | decide)) only [go_sem, Nat.reduceAdd, Nat.reduceSub, Nat.reduceMul, Nat.reduceLeDiff, Nat.reduceEqDiff, Nat.reduceBEq, reduceIte, reduceCtorEq, c_regencyref19_Heap_Bytes, hq, h2, h3, h4, gdset]
/-! ### puts -/
theorem put_eq {i : Int} {c : List UInt8} (hR : Rel n es hs ps) (hn : (n : Int) = cnt l s d) : putR l s d i c es = rputR l s d i c hs ps := by
  unfold putR rputR
  by_cases hk : clen l s d i < 0
  · rw [if_pos hk, if_pos hk]
  · rw [if_neg hk, if_neg hk]
    by_cases hlen : (c.length : Int) ≠ clen l s d i
    · rw [if_pos hlen, if_pos hlen]
    · rw [if_neg hlen, if_neg hlen]
      have hin : 0 ≤ i ∧ i < n := by
        unfold clen at hk
        split at hk
        · rename_i z; omega
        · omega
      obtain ⟨u, rfl⟩ : ∃ u : Nat, i = u := ⟨i.toNat, by omega⟩
      rw [Int.toNat_natCast]
      have huh : u < hs.length := by rw [hR.hl]; omega
      have hsu : hs[u]? = some hs[u] := List.getElem?_eq_getElem huh
      cases hb : hs[u] with
      | true =>
        rw [hb] at hsu
        obtain ⟨k, w, hf, hw⟩ := hR.yes u hsu
        rw [hf, hsu, hw]
        simp only
        by_cases e : w = c
        · rw [if_pos e, if_neg (by simp [e])]
        · rw [if_neg e, if_pos ⟨trivial, by simpa using e⟩]
      | false =>
        rw [hb] at hsu
        rw [hR.no u hsu, hsu, if_neg (by simp)]
theorem put_rel {i : Int} {c : List UInt8} (hR : Rel n es hs ps) (hr : rightP l s d) (hn : (n : Int) = cnt l s d) (hsz : ∀ c ∈ ps, c.length ≤ 512) (h0 : rputR l s d i c hs ps = 0) :
    Rel n (putE i c es) (hs.set i.toNat true) (ps.set i.toNat c) ∧ ∀ x ∈ ps.set i.toNat c, x.length ≤ 512 := by
  unfold rputR at h0
  split at h0
  · omega
  · rename_i hk
    split at h0
    · omega
    · rename_i hlen
      have hin : (0 ≤ i ∧ i < n) ∧ clen l s d i ≤ s := by
        unfold clen at hk ⊢
        split at hk
        · rename_i z; rw [if_pos z]; omega
        · omega
      have hs512 := hr.2.2.1.2
      obtain ⟨u, rfl⟩ : ∃ u : Nat, i = u := ⟨i.toNat, by omega⟩
      rw [Int.toNat_natCast]
      refine ⟨rel_put hR (by omega) c, fun x hx => ?_⟩
      rcases List.mem_or_eq_of_mem_set hx with hx | rfl
      · exact hsz x hx
      · omega
end
/-! ### a new one -/
def newH (l s d : Int) (n : Nat) (h : AH) (v : Bool) : AH :=
  if v then h ++ [.cells (hd l s d), .cells ((List.replicate n false).map AV.bool), .cells ((List.replicate n ([] : List UInt8)).map encS), .cells [.int .i64 l, .int .i64 s, .int .i64 d, .bs (h.length + 1) 0 n (some n), .bs (h.length + 2) 0 n (some n)]]
  else h ++ [.cells (hd l s d), .cells ((List.replicate n ([] : List UInt8)).map encS), .cells ((List.replicate n false).map AV.bool), .cells [.int .i64 l, .int .i64 s, .int .i64 d, .bs (h.length + 2) 0 n (some n), .bs (h.length + 1) 0 n (some n)]]
def endN (l s d : Int) (n : Nat) (h : AH) (e : Ex) (σ : List AV) (h' : AH) : Prop := e = .ret ∧ σ.getD 2 undefA = .box (h.length + 3) 0 ∧ ∃ v, h' = newH l s d n h v
theorem flatB (n : Nat) : (List.replicate n [AV.bool false]).flatten = (List.replicate n false).map AV.bool := by
  induction n with
  | zero => rfl
  | succ n ih => rw [List.replicate_succ, List.flatten_cons, ih, List.replicate_succ]; rfl
theorem flatS (n : Nat) : (List.replicate n [AV.str ⟨#[]⟩]).flatten = (List.replicate n ([] : List UInt8)).map encS := by
  induction n with
  | zero => rfl
  | succ n ih => rw [List.replicate_succ, List.flatten_cons, ih, List.replicate_succ]; rfl
set_option maxHeartbeats 8000000 in
theorem new_dv {l s d : Int} {n : Nat} {h : AH} (hn : (n : Int) = cnt l s d) (hn5 : n ≤ 5000) : dv T c_regencyref19_New.body ([.agg (hd l s d)] ++ List.replicate (c_regencyref19_New.ntmps - [AV.agg (hd l s d)].length) undefA) h (endN l s d n h) := by
  have hc := fun h => rcount_run (l := l) (s := s) (d := d) (h := h)
  simp only [hd] at hc
  rw [← hn] at hc
  have l1 : ∀ X : Bx, (h ++ [X]).length = h.length + 1 := fun X => by simp
  have l2 : ∀ X Y : Bx, (h ++ [X, Y]).length = h.length + 2 := fun X Y => by simp
  have l3 : ∀ X Y Z : Bx, (h ++ [X, Y, Z]).length = h.length + 3 := fun X Y Z => by simp
  have n1 : ((n : Int)).toNat = n := Int.toNat_natCast n
  have g0 : ∀ (X : Bx) (L : AH), (h ++ X :: L)[h.length]? = some X := fun X L => by simp
  simp (maxSteps := 8000000) -implicitDefEqProofs (disch := (refine id_ok ?_; first | assumption | omega | (simp only [go_sem, List.size_toArray, List.length_map, List.length_append, List.length_take, List.length_drop, List.length_cons, List.length_nil, mrLL_app, keyD_i, keyD_s, keyD_b, Nat.reduceAdd, Nat.reduceEqDiff, Nat.reduceLeDiff] <;> omega) | with_unfolding_all rfl | decide)) only [go_sem, Nat.reduceAdd, Nat.reduceSub, Nat.reduceMul, Nat.reduceLeDiff, Nat.reduceEqDiff, Nat.reduceBEq, reduceIte, reduceCtorEq, c_regencyref19_New, hd, hc, l1, l2, l3, n1, flatB, flatS, g0]
  repeat' (first | exact ⟨rfl, rfl, true, rfl⟩ | exact ⟨rfl, rfl, false, rfl⟩ | apply And.intro)
/-- The document's new heap: its lists' boxes come in either order. -/
theorem rnew_call {l s d : Int} {n : Nat} {h : AH} (hn : (n : Int) = cnt l s d) (hn5 : n ≤ 5000) : CallW Try.prog 10 [.agg (hd l s d)] h (fun r h' => r = .box (h.length + 3) 0 ∧ ∃ v, h' = newH l s d n h v) := by
  refine call_of_body is_regencyref19_New (dv_sound okT _ _ _ _ _ ?_ (new_dv (l := l) (s := s) (d := d) (h := h) hn hn5)) ⟨_, _, rfl, true, rfl⟩
  rintro e σ h' ⟨rfl, h2, v, h3⟩
  refine ⟨trivial, [.box (h.length + 3) 0], ?_, rfl, v, h3⟩
  show retV h' [.tmp 2] σ = _
  rw [List.getD_eq_getElem?_getD] at h2
  simp [retV, h2]
end Go.Proofs.Ytgmhbncbmpahjaa.L
