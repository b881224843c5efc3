/- Books read from bytes: the program's failing ways; the document's. -/
import Derived.Test.YtjeigcnaalleiaaGreatDoorL53
import Derived.Test.YtjeigcnaalleiaaGreatDoorL39
set_option linter.all false
set_option maxRecDepth 100000
namespace Go.Proofs.YtjeigcnaalleiaaGreatDoor.L
open Go.Proofs.YtjeigcnaalleiaaGreatDoor.M Go.Proofs.YtjeigcnaalleiaaGreatDoor.F Go.Proofs

attribute [local irreducible] tapN tapT parR
theorem getB_ok : ∀ (k : Nat) {s s' : TS} {ls : List Ln}, getB k s = some (ls, s') → ls.length = k ∧ ∀ l ∈ ls, okL l
  | 0, s, s', ls, h => by
    simp only [getB, Option.some.injEq, Prod.mk.injEq] at h
    obtain ⟨rfl, rfl⟩ := h
    exact ⟨rfl, by simp⟩
  | k + 1, s, s', ls, h => by
    rw [getB] at h
    split at h
    · rw [Option.map_eq_some_iff] at h
      obtain ⟨⟨l2, s2⟩, h1, h2⟩ := h
      simp only [Prod.mk.injEq] at h2
      obtain ⟨rfl, rfl⟩ := h2
      obtain ⟨q1, q2⟩ := getB_ok k h1
      refine ⟨by simp [q1], fun l hl => ?_⟩
      rcases List.mem_cons.1 hl with rfl | hl
      · exact .inl rfl
      · exact q2 l hl
    · rename_i hn
      split at h
      · cases h
      · rename_i r hr
        rw [Option.map_eq_some_iff] at h
        obtain ⟨⟨l2, s2⟩, h1, h2⟩ := h
        simp only [Prod.mk.injEq] at h2
        obtain ⟨rfl, rfl⟩ := h2
        obtain ⟨q1, q2⟩ := getB_ok k h1
        refine ⟨by simp [q1], fun l hl => ?_⟩
        rcases List.mem_cons.1 hl with rfl | hl
        · have := tapN_le 1048576 s
          exact .inr ⟨_, r, rfl, by omega, by omega, (parR_inv hr).1⟩
        · exact q2 l hl
set_option maxHeartbeats 4000000 in
theorem get8_bad {h : AH} : ∀ (d : Nat) (p : List Ln) (s : TS) (js : AH), d + p.length = 8 → s.1.length < 140737488355328 → getB d s = none →
    ∃ σ h' js', den T (.loop l_clients_Get_0) (s_clients_Get_0 (.box h.length 0) (.box (h.length + 1) 0) (.int .i64 p.length)) (h ++ Tb s :: Bk (padB p d) :: js) = some (.ret, σ, h') ∧ σ.getD 2 undefA = .nilp ∧ σ.getD 3 undefA = .int .i64 10 ∧ ∃ s2 B, h' = h ++ Tb s2 :: B :: js' := by
  intro d
  induction d with
  | zero => intro p s js hd hs hg; simp [getB] at hg
  | succ d ih =>
    intro p s js hd hs hg
    have hd' : decide ((p.length : Int) < 8) = true := decide_eq_true (by omega)
    have t1 := fun js => tnum_at0 (h := h) (js := js) (s := s) (g := 1048576) (by omega)
    simp only [show ((1048576 : Nat) : Int) = 1048576 from rfl] at t1
    have l1 := tapN_len 1048576 s
    have e7 : IntKind.i64.wrap ((p.length : Int) + 1) = ((p.length + 1 : Nat) : Int) := by rw [w64 (by omega) (by omega)]; rfl
    rw [getB] at hg
    generalize tapN 1048576 s = x at *
    obtain ⟨n, s2⟩ := x
    simp only at hg t1 l1
    by_cases hn : n = 0
    · subst hn
      rw [if_pos rfl, Option.map_eq_none_iff] at hg
      obtain ⟨σ, h', js', hj, h2, h3, h4⟩ := ih (p ++ [(0, none)]) s2 js (by simp; omega) (by omega) hg
      rw [← padB_succ, List.length_append, List.length_cons, List.length_nil] at hj
      have hstep : den T (.loop l_clients_Get_0) (s_clients_Get_0 (.box h.length 0) (.box (h.length + 1) 0) (.int .i64 p.length)) (h ++ Tb s :: Bk (padB p (d + 1)) :: js) = den T (.loop l_clients_Get_0) (s_clients_Get_0 (.box h.length 0) (.box (h.length + 1) 0) (.int .i64 (p.length + 1 : Nat))) (h ++ Tb s2 :: Bk (padB p (d + 1)) :: js) := by
        rw [lp_round]
        simp (maxSteps := 2000000) -implicitDefEqProofs (disch := (refine id_ok ?_; first | assumption | omega | (simp only [go_sem, List.size_toArray, List.length_map, List.length_append, List.length_take, List.length_drop, List.length_cons, List.length_nil, mrLL_app, keyD_i, keyD_s, keyD_b, Nat.reduceAdd, Nat.reduceEqDiff, Nat.reduceLeDiff] <;> omega) | with_unfolding_all rfl | decide)) only [go_sem, Nat.reduceAdd, Nat.reduceSub, Nat.reduceMul, Nat.reduceLeDiff, Nat.reduceEqDiff, Nat.reduceBEq, reduceIte, reduceCtorEq, hd', t1, show (((0 : Nat) : Int) == 0) = true from rfl, e7]
        try rfl
      exact ⟨σ, h', js', hstep.trans hj, h2, h3, h4⟩
    · rw [if_neg hn] at hg
      have t2 := fun js => ttext_at0 (h := h) (js := js) (s := s2) (g := 2048) (by omega)
      simp only [show ((2048 : Nat) : Int) = 2048 from rfl] at t2
      have l2 := tapT_len 2048 s2
      have l3 := tapT_str 2048 s2
      generalize tapT 2048 s2 = y at *
      obtain ⟨tx, s4⟩ := y
      simp only at hg t2 l2 l3
      have t3 := fun h => parR_run (b := tx) (h := h) (by omega)
      have e1 : ((n : Int) == 0) = false := by simp; omega
      have hlJ : ∀ X Y : Bx, (h ++ X :: Y :: js).length = h.length + (2 + js.length) := fun X Y => by simp; omega
      have gJ : ∀ a b c : Bx, (a :: b :: (js ++ [c]))[2 + js.length]? = some c := fun a b c => by rw [Nat.add_comm]; simp
      have sJ : ∀ a b c x : Bx, (a :: b :: (js ++ [c])).set (2 + js.length) x = a :: b :: (js ++ [x]) := fun a b c x => by rw [Nat.add_comm]; simp
      cases hp : parR tx with
      | none =>
        have hres : repRes tx = .tup [.agg (encR zeroR), rerr tx] := by unfold repRes; rw [hp]
        have hre : rerr tx = fT repl 10 (er (tapE (rdR tx).s)) := rfl
        rw [hres, hre] at t3
        have hz : encR zeroR = [.int .i64 0, .int .i64 0, .sl .sh [], .str ⟨#[]⟩, .sl .sh [], .sl .sh []] := rfl
        rw [hz] at t3
        have hni : ∀ e, isnilV .ifc true (fT repl 10 (er e)) = some (.bool true) := fun e => rfl
        have hfs : ∀ e, (fT repl 10 (er e)).sh = fT repl 10 (er e) := fun e => by cases e <;> rfl
        rw [lp_round]
        simp (maxSteps := 4000000) -implicitDefEqProofs (disch := (refine id_ok ?_; first | assumption | omega | (simp only [go_sem, List.size_toArray, List.length_map, List.length_append, List.length_take, List.length_drop, List.length_cons, List.length_nil, mrLL_app, keyD_i, keyD_s, keyD_b, Nat.reduceAdd, Nat.reduceEqDiff, Nat.reduceLeDiff] <;> omega) | with_unfolding_all rfl | decide)) only [go_sem, Nat.reduceAdd, Nat.reduceSub, Nat.reduceMul, Nat.reduceLeDiff, Nat.reduceEqDiff, Nat.reduceBEq, reduceIte, reduceCtorEq, hd', t1, t2, t3, e1, hlJ, gJ, sJ, app_get, app_set, app_get0, app_set0, hni, hfs]
        exact ⟨_, _, _, ⟨rfl, rfl⟩, rfl, rfl, _, _, rfl⟩
      | some r =>
        rw [hp] at hg
        simp only [Option.map_eq_none_iff] at hg
        have hres : repRes tx = .tup [.agg (encR r), .nili] := by unfold repRes; rw [hp]
        rw [hres] at t3
        obtain ⟨σ, h', js', hj, k2, k3, k4⟩ := ih (p ++ [((n : Int), some r)]) s4 (js ++ [.cells (encR r)]) (by simp; omega) (by omega) hg
        rw [List.length_append, List.length_cons, List.length_nil] at hj
        have hpl : (padB p (d + 1)).length = 8 := by simp [padB]; omega
        have hov := flat_ovl (b := padB p (d + 1)) (i := p.length) ((n : Int), some r) (by rw [hpl]; omega)
        rw [padB_set] at hov
        have hle : Nat.ble (p.length * 7 + 7) ((padB p (d + 1)).flatMap encL).length = true := by rw [flat_len, hpl]; exact Nat.ble_eq_true_of_le (by omega)
        simp only [encL, encO, encR, ovl, List.cons_append, List.nil_append, List.length_cons, List.length_nil, List.append_assoc, Nat.zero_add, Nat.reduceAdd] at hov
        have hstep : den T (.loop l_clients_Get_0) (s_clients_Get_0 (.box h.length 0) (.box (h.length + 1) 0) (.int .i64 p.length)) (h ++ Tb s :: Bk (padB p (d + 1)) :: js) = den T (.loop l_clients_Get_0) (s_clients_Get_0 (.box h.length 0) (.box (h.length + 1) 0) (.int .i64 (p.length + 1 : Nat))) (h ++ Tb s4 :: Bk (padB (p ++ [((n : Int), some r)]) d) :: (js ++ [.cells (encR r)])) := by
          simp only [encR] at t3 ⊢
          rw [lp_round]
          simp (maxSteps := 2000000) -implicitDefEqProofs (disch := (refine id_ok ?_; first | assumption | omega | (simp only [go_sem, List.size_toArray, List.length_map, List.length_append, List.length_take, List.length_drop, List.length_cons, List.length_nil, mrLL_app, keyD_i, keyD_s, keyD_b, Nat.reduceAdd, Nat.reduceEqDiff, Nat.reduceLeDiff] <;> omega) | with_unfolding_all rfl | decide)) only [go_sem, Nat.reduceAdd, Nat.reduceSub, Nat.reduceMul, Nat.reduceLeDiff, Nat.reduceEqDiff, Nat.reduceBEq, reduceIte, reduceCtorEq, hd', t1, t2, t3, e1, e7, Int.toNat_natCast, hlJ, gJ, sJ, app_get, app_set, app_get0, app_set0, Bk, hle]
          rw [hov]
          try rfl
        exact ⟨σ, h', js', hstep.trans hj, k2, k3, k4⟩
theorem mrB_Tb {s : TS} : mrB (Tb s) = 0 := by
  obtain ⟨b, e⟩ := s
  have h1 : mrLL (b.map encB) = 0 := mrLL_B
  have h2 : (er e).mr = 0 := by cases e <;> rfl
  simp only [Tb, Tp, mrB, mrL, AV.mr, h1, h2]
  rfl
theorem gc_tape {h js : AH} {s s2 : TS} {B : Bx} {v : AV} (hv : v.mr = 0) : gc (h ++ [Tb s]) v (h ++ Tb s2 :: B :: js) = some (v, h ++ [Tb s2]) := by
  have e1 : h ++ Tb s2 :: B :: js = (h ++ [Tb s]).set h.length (Tb s2) ++ (B :: js) := by rw [app_set0]; simp
  have e2 : h ++ [Tb s2] = (h ++ [Tb s]).set h.length (Tb s2) := by rw [app_set0]; rfl
  rw [e1, e2]
  exact gc_dropS hv mrB_Tb
/-- A book that is not read. -/
theorem bget_no {h : AH} {s : TS} (hs : s.1.length < 140737488355328) (hg : getB 8 s = none ∨ ∃ ls s', getB 8 s = some (ls, s') ∧ s'.2 ≠ none) :
    ∃ s2, run T 18 [.box h.length 0] (h ++ [Tb s]) = some (.tup [.nilp, .int .i64 10], h ++ [Tb s2]) := by
  have h2 := bnew_run (h := h ++ [Tb s])
  have hl1 : ∀ X : Bx, (h ++ [X]).length = h.length + 1 := fun X => by simp
  simp only [hl1, List.append_assoc, List.cons_append, List.nil_append] at h2
  rcases hg with hg | ⟨ls, s', hg, he⟩
  · obtain ⟨σ, h', js', h1, k2, k3, s2, B, rfl⟩ := get8_bad (h := h) 8 [] s [] rfl hs hg
    simp only [List.length_nil, show ((0 : Nat) : Int) = 0 from rfl, show padB [] 8 = newB from rfl] at h1
    refine ⟨s2, ?_⟩
    rw [run_code T_18]
    simp (maxSteps := 2000000) -implicitDefEqProofs (disch := (refine id_ok ?_; first | assumption | omega | (simp only [go_sem, List.size_toArray, List.length_map, List.length_append, List.length_take, List.length_drop, List.length_cons, List.length_nil, mrLL_app, keyD_i, keyD_s, keyD_b, Nat.reduceAdd, Nat.reduceEqDiff, Nat.reduceLeDiff] <;> omega) | with_unfolding_all rfl | decide)) only [go_sem, Nat.reduceAdd, Nat.reduceSub, Nat.reduceMul, Nat.reduceLeDiff, Nat.reduceEqDiff, Nat.reduceBEq, reduceIte, reduceCtorEq, c_clients_Get, h2, h1, k2, k3]
    exact gc_tape rfl
  · obtain ⟨js', h1⟩ := get8_loop (h := h) 8 [] s [] ls s' rfl hs hg
    simp only [List.length_nil, show ((0 : Nat) : Int) = 0 from rfl, List.nil_append, show padB [] 8 = newB from rfl] at h1
    have h3 := fun js => terr_at0 (h := h) (js := js) (s := s')
    cases hs' : s'.2 with
    | none => exact absurd hs' he
    | some c =>
      rw [hs'] at h3
      refine ⟨s', ?_⟩
      rw [run_code T_18]
      simp (maxSteps := 2000000) -implicitDefEqProofs (disch := (refine id_ok ?_; first | assumption | omega | (simp only [go_sem, List.size_toArray, List.length_map, List.length_append, List.length_take, List.length_drop, List.length_cons, List.length_nil, mrLL_app, keyD_i, keyD_s, keyD_b, Nat.reduceAdd, Nat.reduceEqDiff, Nat.reduceLeDiff] <;> omega) | with_unfolding_all rfl | decide)) only [go_sem, Nat.reduceAdd, Nat.reduceSub, Nat.reduceMul, Nat.reduceLeDiff, Nat.reduceEqDiff, Nat.reduceBEq, reduceIte, reduceCtorEq, c_clients_Get, h2, h1, h3]
      exact gc_tape rfl
end Go.Proofs.YtjeigcnaalleiaaGreatDoor.L

/- The document's book read from bytes. -/
set_option linter.all false
set_option maxRecDepth 100000
namespace Go.Proofs.YtjeigcnaalleiaaGreatDoor.L
open Go.Proofs.YtjeigcnaalleiaaGreatDoor.M Go.Proofs.YtjeigcnaalleiaaGreatDoor.F Go.Proofs

attribute [local irreducible] tapN tapT parR
section
variable {h js : AH} {t g : Nat} {s : TS}
theorem rtn_G (ht : t < h.length) (ho : okS0 s) (hl : s.1.length ≤ 1000000000) : run T 43 [.box t 0, .int .i64 g] (h.set t (Tr s) ++ js) = some (.int .i64 (tapN g s).1, h.set t (Tr (tapN g s).2) ++ js) := by
  have h1 := rtn_run (t := t) (g := g) (s := s) (h := h.set t (Tr s) ++ js) (by rw [List.getElem?_append_left (by simpa using ht), List.getElem?_set_self ht]) ho hl
  rw [List.set_append_left _ _ (by simpa using ht), List.set_set] at h1
  exact h1
theorem rtt_G (ht : t < h.length) (ho : okS0 s) (hl : s.1.length ≤ 1000000000) : run T 45 [.box t 0, .int .i64 g] (h.set t (Tr s) ++ js) = some (.str ⟨(tapT g s).1.toArray⟩, h.set t (Tr (tapT g s).2) ++ js) := by
  have h1 := rtt_run (t := t) (g := g) (s := s) (h := h.set t (Tr s) ++ js) (by rw [List.getElem?_append_left (by simpa using ht), List.getElem?_set_self ht]) ho hl
  rw [List.set_append_left _ _ (by simpa using ht), List.set_set] at h1
  exact h1
theorem sapp_get {X : Bx} {l : AH} {k : Nat} : (h.set t X ++ l)[h.length + k]? = l[k]? := by
  have := app_get (h := h.set t X) (l := l) (k := k)
  rwa [List.length_set] at this
theorem sapp_get0 {X : Bx} {l : AH} : (h.set t X ++ l)[h.length]? = l[0]? := by
  have := app_get0 (h := h.set t X) (l := l)
  rwa [List.length_set] at this
theorem sapp_set {X Y : Bx} {l : AH} {k : Nat} : (h.set t X ++ l).set (h.length + k) Y = h.set t X ++ l.set k Y := by
  have := app_set (h := h.set t X) (l := l) (k := k) (x := Y)
  rwa [List.length_set] at this
theorem sapp_set0 {X Y : Bx} {l : AH} : (h.set t X ++ l).set h.length Y = h.set t X ++ l.set 0 Y := by
  have := app_set0 (h := h.set t X) (l := l) (x := Y)
  rwa [List.length_set] at this
end
theorem adE_st {d : Option Nat} {n : Nat} {x y : Opd} {gd : Option (Nat × Bool)} {h h' : AH} {E : List (AH × AH)} : addE (⟨d, .store n x y, gd⟩, true) h h' E = (h, h') :: E := rfl
theorem adS_st {d : Option Nat} {n : Nat} {x y : Opd} {gd : Option (Nat × Bool)} {σ : List AV} {S : List Nat} : addS (⟨d, .store n x y, gd⟩, true) σ S = S := rfl
attribute [go_sem] adE_st adS_st
theorem xO_same {b : List Ln} {k : Nat} (hk : k < b.length) : ovl (xO b) k [.int .i64 b[k].1] = xO b := by
  have h1 := xO_num hk
  have hl : k < (xO b).length := (List.getElem?_eq_some_iff.1 h1).1
  have h2 : (xO b)[k] = .int .i64 b[k].1 := (List.getElem?_eq_some_iff.1 h1).2
  simp only [ovl, List.length_cons, List.length_nil, Nat.zero_add]
  rw [← h2, List.append_assoc, List.singleton_append, ← List.drop_eq_getElem_cons hl, List.take_append_drop]
theorem padB_get {p : List Ln} {d : Nat} (h : p.length < (padB p (d + 1)).length) : (padB p (d + 1))[p.length] = (0, none) := by
  have : (padB p (d + 1))[p.length]? = some (0, none) := by unfold padB; rw [List.getElem?_append_right (Nat.le_refl _), Nat.sub_self]; rfl
  exact (List.getElem?_eq_some_iff.1 this).2
abbrev sG (h : AH) (t i : Nat) : List AV := s_regencyref17_Get_0 (.box t 0) (.box h.length 0) (.box (h.length + 1) 0) (.int .i64 i)
set_option maxHeartbeats 16000000 in
theorem rg_loop {h : AH} {t : Nat} (ht : t < h.length) : ∀ (d : Nat) (p : List Ln) (s : TS) (js : AH), d + p.length = 8 → okS0 s → s.1.length ≤ 1000000000 →
    (∀ ls s', getB d s = some (ls, s') → okS0 s' ∧ ∃ js', den T (.loop l_regencyref17_Get_0) (sG h t p.length) (h.set t (Tr s) ++ .cells x0 :: .cells (xO (padB p d)) :: js) = some (.exit 0, x_regencyref17_Get_0 (.box t 0) (.box h.length 0) (.box (h.length + 1) 0), h.set t (Tr s') ++ .cells x0 :: .cells (xO (p ++ ls)) :: js')) ∧
    (getB d s = none → ∃ σ h', den T (.loop l_regencyref17_Get_0) (sG h t p.length) (h.set t (Tr s) ++ .cells x0 :: .cells (xO (padB p d)) :: js) = some (.ret, σ, h') ∧ σ.getD 2 undefA = .box h.length 0 ∧ σ.getD 3 undefA = .bool false ∧ ∃ s' js', h' = h.set t (Tr s') ++ .cells x0 :: js') := by
  intro d
  induction d with
  | zero =>
    intro p s js hd ho hs
    have hd' : decide ((p.length : Int) < 8) = false := decide_eq_false (by omega)
    have e : padB p 0 = p := by simp [padB]
    refine ⟨fun ls s' hg => ?_, fun hg => by simp [getB] at hg⟩
    simp only [getB, Option.some.injEq, Prod.mk.injEq] at hg
    obtain ⟨rfl, rfl⟩ := hg
    refine ⟨ho, js, ?_⟩
    rw [e, List.append_nil]
    rw [lp_round]
    simp -implicitDefEqProofs (disch := (refine id_ok ?_; first | assumption | omega | (simp only [go_sem, List.size_toArray, List.length_map, List.length_append, List.length_take, List.length_drop, List.length_cons, List.length_nil, mrLL_app, keyD_i, keyD_s, keyD_b, Nat.reduceAdd, Nat.reduceEqDiff, Nat.reduceLeDiff] <;> omega) | with_unfolding_all rfl | decide)) only [go_sem, Nat.reduceAdd, Nat.reduceSub, Nat.reduceMul, Nat.reduceLeDiff, Nat.reduceEqDiff, Nat.reduceBEq, reduceIte, reduceCtorEq, hd']
  | succ d ih =>
    intro p s js hd ho hs
    have hd' : decide ((p.length : Int) < 8) = true := decide_eq_true (by omega)
    have t1 := fun js => rtn_G (h := h) (js := js) (g := 1048576) ht ho hs
    simp only [show ((1048576 : Nat) : Int) = 1048576 from rfl] at t1
    have l1 := tapN_len 1048576 s
    have o1 := tapN_ok (g := 1048576) ho
    have e7 := inc64 (n := p.length) (by omega)
    have hpl : (padB p (d + 1)).length = 8 := by simp [padB]; omega
    have hpk : p.length < (padB p (d + 1)).length := by omega
    have hpg := padB_get hpk
    have hit : (p.length : Int).toNat = p.length := by omega
    have hlen : (xO (padB p (d + 1))).length = 56 := by rw [xO_len, hpl]
    have hb1 : Nat.ble (p.length + 1) (xO (padB p (d + 1))).length = true := by rw [hlen]; exact Nat.ble_eq_true_of_le (by omega)
    rw [getB]
    generalize tapN 1048576 s = x at *
    obtain ⟨n, s2⟩ := x
    simp only at t1 l1 o1 ⊢
    by_cases hn : n = 0
    · subst hn
      rw [if_pos rfl]
      have hsm := xO_same hpk
      rw [hpg] at hsm
      simp only [ovl, List.cons_append, List.nil_append, List.length_cons, List.length_nil, List.append_assoc, Nat.zero_add] at hsm
      have hg0 := xO_num hpk
      rw [hpg] at hg0
      obtain ⟨ih1, ih2⟩ := ih (p ++ [(0, none)]) s2 js (by simp; omega) o1 (by omega)
      rw [← padB_succ, List.length_append, List.length_cons, List.length_nil] at ih1 ih2
      have hstep : den T (.loop l_regencyref17_Get_0) (sG h t p.length) (h.set t (Tr s) ++ .cells x0 :: .cells (xO (padB p (d + 1))) :: js) = den T (.loop l_regencyref17_Get_0) (sG h t (p.length + 1)) (h.set t (Tr s2) ++ .cells x0 :: .cells (xO (padB p (d + 1))) :: js) := by
        rw [lp_round]
        simp (maxSteps := 4000000) -implicitDefEqProofs (disch := (refine id_ok ?_; first | assumption | omega | (simp only [go_sem, List.size_toArray, List.length_map, List.length_append, List.length_take, List.length_drop, List.length_cons, List.length_nil, mrLL_app, keyD_i, keyD_s, keyD_b, Nat.reduceAdd, Nat.reduceEqDiff, Nat.reduceLeDiff] <;> omega) | with_unfolding_all rfl | decide)) only [go_sem, Nat.reduceAdd, Nat.reduceSub, Nat.reduceMul, Nat.reduceLeDiff, Nat.reduceEqDiff, Nat.reduceBEq, reduceIte, reduceCtorEq, hd', t1, hit, Nat.mul_one, hb1, sapp_get, sapp_get0, sapp_set, sapp_set0, hsm, hg0, show (((0 : Nat) : Int) != 0) = false from rfl, show ((0 : Nat) : Int) = 0 from rfl, show ((0 : Int) != 0) = false from rfl, e7]
        try rfl
      rw [hstep]
      refine ⟨fun ls s' hg => ?_, fun hg => ih2 (by simpa using hg)⟩
      rw [Option.map_eq_some_iff] at hg
      obtain ⟨⟨ls2, s3⟩, hg2, he⟩ := hg
      simp only [Prod.mk.injEq] at he
      obtain ⟨rfl, rfl⟩ := he
      obtain ⟨q, js', hj⟩ := ih1 ls2 s3 hg2
      rw [List.append_assoc, List.singleton_append] at hj
      exact ⟨q, js', hj⟩
    · rw [if_neg hn]
      have e1 : ((n : Int) != 0) = true := by simp [hn]
      have t2 := fun js => rtt_G (h := h) (js := js) (g := 2048) ht o1 (by omega)
      simp only [show ((2048 : Nat) : Int) = 2048 from rfl] at t2
      have l2 := tapT_len 2048 s2
      have l3 := tapT_str 2048 s2
      have o2 := tapT_ok (g := 2048) o1
      generalize tapT 2048 s2 = y at *
      obtain ⟨tx, s4⟩ := y
      simp only at t2 l2 l3 o2 ⊢
      have t3 := rpar_run (b := tx) (by omega)
      have hlJ : ∀ X Y : Bx, (h.set t (Tr s4) ++ X :: Y :: js).length = h.length + (2 + js.length) := fun X Y => by simp; omega
      have gJ : ∀ a b c : Bx, (a :: b :: (js ++ [c]))[2 + js.length]? = some c := fun a b c => by rw [Nat.add_comm]; simp
      have sJ : ∀ a b c x : Bx, (a :: b :: (js ++ [c])).set (2 + js.length) x = a :: b :: (js ++ [x]) := fun a b c x => by rw [Nat.add_comm]; simp
      have hY' : List.take p.length (xO (padB p (d + 1))) ++ AV.int .i64 n :: List.drop (p.length + 1) (xO (padB p (d + 1))) = ovl (xO (padB p (d + 1))) p.length [.int .i64 n] := by simp [ovl]
      have hYg : (ovl (xO (padB p (d + 1))) p.length [.int .i64 n])[p.length]? = some (.int .i64 n) := by
        have hlt' : ((xO (padB p (d + 1))).take p.length).length = p.length := by rw [List.length_take, hlen]; omega
        simp only [ovl]
        rw [List.append_assoc, List.getElem?_append_right (by rw [hlt']; omega), hlt', Nat.sub_self]; rfl
      have hYl : (ovl (xO (padB p (d + 1))) p.length [.int .i64 n]).length = 56 := by simp [ovl, hlen]; omega
      have hb2 : Nat.ble (8 + p.length * 6 + 6) (ovl (xO (padB p (d + 1))) p.length [.int .i64 n]).length = true := by rw [hYl]; exact Nat.ble_eq_true_of_le (by omega)
      cases hp : parR tx with
      | none =>
        rw [hp] at t3
        have hz : encR zeroR = [.int .i64 0, .int .i64 0, .sl .sh [], .str ⟨#[]⟩, .sl .sh [], .sl .sh []] := rfl
        simp only [Option.getD_none, hz, Option.isSome_none, Bool.false_eq_true, if_false] at t3
        refine ⟨fun ls s' hg => (by cases hg), fun _ => ?_⟩
        generalize ovl (xO (padB p (d + 1))) p.length [.int .i64 n] = Y at *
        rw [lp_round]
        simp (maxSteps := 8000000) -implicitDefEqProofs (disch := (refine id_ok ?_; first | assumption | omega | (simp only [go_sem, List.size_toArray, List.length_map, List.length_append, List.length_take, List.length_drop, List.length_cons, List.length_nil, mrLL_app, keyD_i, keyD_s, keyD_b, Nat.reduceAdd, Nat.reduceEqDiff, Nat.reduceLeDiff] <;> omega) | with_unfolding_all rfl | decide)) only [go_sem, Nat.reduceAdd, Nat.reduceSub, Nat.reduceMul, Nat.reduceLeDiff, Nat.reduceEqDiff, Nat.reduceBEq, reduceIte, reduceCtorEq, x0, hd', t1, hit, Nat.mul_one, hb1, sapp_get, sapp_get0, sapp_set, sapp_set0, hY', hYg, e1, t2, t3, hlJ, gJ, sJ]
        exact ⟨_, _, ⟨rfl, rfl⟩, rfl, rfl, _, _, rfl⟩
      | some r =>
        rw [hp] at t3
        simp only [Option.getD_some, Option.isSome_some, if_true] at t3
        have hxs := xO_set (n := (n : Int)) (r := r) hpl hpk
        rw [padB_set] at hxs
        obtain ⟨ih1, ih2⟩ := ih (p ++ [((n : Int), some r)]) s4 (js ++ [.cells (encR r)]) (by simp; omega) o2 (by omega)
        rw [List.length_append, List.length_cons, List.length_nil] at ih1 ih2
        have hstep : den T (.loop l_regencyref17_Get_0) (sG h t p.length) (h.set t (Tr s) ++ .cells x0 :: .cells (xO (padB p (d + 1))) :: js) = den T (.loop l_regencyref17_Get_0) (sG h t (p.length + 1)) (h.set t (Tr s4) ++ .cells x0 :: .cells (xO (padB (p ++ [((n : Int), some r)]) d)) :: (js ++ [.cells (encR r)])) := by
          generalize ovl (xO (padB p (d + 1))) p.length [.int .i64 n] = Y at *
          simp only [encR] at t3 hxs ⊢
          simp only [ovl, List.cons_append, List.nil_append, List.length_cons, List.length_nil, List.append_assoc, Nat.zero_add, Nat.reduceAdd] at hxs
          rw [lp_round]
          simp (maxSteps := 8000000) -implicitDefEqProofs (disch := (refine id_ok ?_; first | assumption | omega | (simp only [go_sem, List.size_toArray, List.length_map, List.length_append, List.length_take, List.length_drop, List.length_cons, List.length_nil, mrLL_app, keyD_i, keyD_s, keyD_b, Nat.reduceAdd, Nat.reduceEqDiff, Nat.reduceLeDiff] <;> omega) | with_unfolding_all rfl | decide)) only [go_sem, Nat.reduceAdd, Nat.reduceSub, Nat.reduceMul, Nat.reduceLeDiff, Nat.reduceEqDiff, Nat.reduceBEq, reduceIte, reduceCtorEq, hd', t1, hit, Nat.mul_one, hb1, hb2, sapp_get, sapp_get0, sapp_set, sapp_set0, hY', hYg, e1, t2, t3, hlJ, gJ, sJ, hxs, e7]
          try rfl
        rw [hstep]
        refine ⟨fun ls s' hg => ?_, fun hg => ih2 (by simpa using hg)⟩
        simp only [Option.map_eq_some_iff] at hg
        obtain ⟨⟨ls2, s3⟩, hg2, he⟩ := hg
        simp only [Prod.mk.injEq] at he
        obtain ⟨rfl, rfl⟩ := he
        obtain ⟨q, js', hj⟩ := ih1 ls2 s3 hg2
        rw [List.append_assoc p, List.singleton_append] at hj
        exact ⟨q, js', hj⟩
theorem mrB_Tr {s : TS} : mrB (Tr s) = 0 := by
  simp only [Tr, mrB, mrL, AV.mr]
  rfl
set_option maxHeartbeats 8000000 in
/-- The document's book, read or not. -/
theorem rget_run {h : AH} {t : Nat} {s : TS} (ht : h[t]? = some (Tr s)) (ho : okS0 s) (hs : s.1.length ≤ 1000000000) :
    (∀ ls s', getB 8 s = some (ls, s') → run T 20 [.box t 0] h = some (.tup [.agg (xO (shb ls)), .bool s'.2.isNone], h.set t (Tr s'))) ∧
    (getB 8 s = none → ∃ s', run T 20 [.box t 0] h = some (.tup [.agg (xO (shb newB)), .bool false], h.set t (Tr s'))) := by
  have hlt : t < h.length := (List.getElem?_eq_some_iff.1 ht).1
  have hsame := set_same ht
  obtain ⟨h1, h2⟩ := rg_loop hlt 8 [] s [] rfl ho hs
  have hl1 : ∀ X : Bx, (h ++ [X]).length = h.length + 1 := fun X => by simp
  simp only [hsame, List.length_nil, show ((0 : Nat) : Int) = 0 from rfl, show padB [] 8 = newB from rfl, List.nil_append, ← x0_eq] at h1 h2
  refine ⟨fun ls s' hg => ?_, fun hg => ?_⟩
  · obtain ⟨o2, js', h3⟩ := h1 ls s' hg
    have hls := (getB_ok 8 hg).1
    have hlx : (xO ls).length = 56 := by rw [xO_len, hls]
    have hlex : Nat.ble 56 (xO ls).length = true := by rw [hlx]; rfl
    have htkx : (xO ls).take 56 = xO ls := List.take_of_length_le (by omega)
    have hshx : shL (xO ls) = xO (shb ls) := shL_xO _
    have hshy : shL (xO (shb ls)) = xO (shb ls) := by rw [shL_xO, shb_shb]
    have hB : (shb ls).length = 8 := by rw [shb_len, hls]
    have hst := fun cs hcs => st56 (b := shb ls) hB (cs := cs) hcs
    have hly : (xO (shb ls)).length = 56 := by rw [xO_len, hB]
    have hley : Nat.ble 56 (xO (shb ls)).length = true := by rw [hly]; rfl
    have htky : (xO (shb ls)).take 56 = xO (shb ls) := List.take_of_length_le (by omega)
    have gt : ∀ js : AH, (h.set t (Tr s') ++ js)[t]? = some (Tr s') := fun js => by rw [List.getElem?_append_left (by simpa using hlt), List.getElem?_set_self hlt]
    have hd : ((cdO s'.2 == 0) = s'.2.isNone) := by
      cases hh : s'.2 with
      | none => rfl
      | some c =>
        have hc : c ≠ 0 := fun q => o2 (by rw [hh, q])
        simp [cdO, hc]
    have hne : (t == h.length) = false := by simp; omega
    simp only [sG, x0, show ((0 : Nat) : Int) = 0 from rfl] at h3
    have hTr : loadB none 1 (some (Tr s')) = some (.int .i64 (cdO s'.2)) := rfl
    have hpd : ∀ (js1 js2 : AH) (σ : List AV) (H : AH), dopsD T [t] [(h.set t (Tr s') ++ js1, h.set t (Tr s') ++ js2)] [] σ H = some (σ, H) := fun js1 js2 σ H => pd_nil fun e he => by
      simp only [List.mem_singleton] at he
      subst he
      intro id hid
      simp only [List.mem_singleton] at hid
      subst hid
      simp only [gt]
    rw [run_code T_20]
    simp (maxSteps := 8000000) -implicitDefEqProofs (disch := (refine id_ok ?_; first | assumption | omega | (simp only [go_sem, List.size_toArray, List.length_map, List.length_append, List.length_take, List.length_drop, List.length_cons, List.length_nil, mrLL_app, keyD_i, keyD_s, keyD_b, Nat.reduceAdd, Nat.reduceEqDiff, Nat.reduceLeDiff] <;> omega) | with_unfolding_all rfl | decide)) only [go_sem, Nat.reduceAdd, Nat.reduceSub, Nat.reduceMul, Nat.reduceLeDiff, Nat.reduceEqDiff, Nat.reduceBEq, reduceIte, reduceCtorEq, c_regencyref17_Get, hl1, app_get, app_get0, h3, sapp_get, sapp_get0, sapp_set, sapp_set0, gt, hTr, hpd, hlex, htkx, hshx, hshy, List.drop_zero, hst, hley, htky, hd]
  · obtain ⟨σ, h', h3, k2, k3, s', js', rfl⟩ := h2 hg
    refine ⟨s', ?_⟩
    have hshx : shL x0 = xO (shb newB) := by rw [x0_eq, shL_xO]
    simp only [sG, x0, show ((0 : Nat) : Int) = 0 from rfl] at h3 hshx
    rw [run_code T_20]
    simp (maxSteps := 8000000) -implicitDefEqProofs (disch := (refine id_ok ?_; first | assumption | omega | (simp only [go_sem, List.size_toArray, List.length_map, List.length_append, List.length_take, List.length_drop, List.length_cons, List.length_nil, mrLL_app, keyD_i, keyD_s, keyD_b, Nat.reduceAdd, Nat.reduceEqDiff, Nat.reduceLeDiff] <;> omega) | with_unfolding_all rfl | decide)) only [go_sem, Nat.reduceAdd, Nat.reduceSub, Nat.reduceMul, Nat.reduceLeDiff, Nat.reduceEqDiff, Nat.reduceBEq, reduceIte, reduceCtorEq, c_regencyref17_Get, hl1, app_get, app_get0, h3, k2, k3, sapp_get, sapp_get0]
    rfl
end Go.Proofs.YtjeigcnaalleiaaGreatDoor.L

/- BookGets: the law. -/
set_option linter.all false
set_option maxRecDepth 100000
namespace Go.Proofs.YtjeigcnaalleiaaGreatDoor.L
open Go.Proofs.YtjeigcnaalleiaaGreatDoor.M Go.Proofs.YtjeigcnaalleiaaGreatDoor.F Go.Proofs

set_option maxHeartbeats 16000000 in
theorem gets_run {b : List UInt8} : run T 4 [.sl .sh (b.map encB)] [] = some (.bool true, []) := by
  rw [run_code T_4]
  by_cases h3 : (b.length : Int) > 3000
  · have e1 : decide ((b.length : Int) > 3000) = true := decide_eq_true h3
    simp (maxSteps := 4000000) -implicitDefEqProofs (disch := (refine id_ok ?_; first | assumption | omega | (simp only [go_sem, List.size_toArray, List.length_map, List.length_append, List.length_take, List.length_drop, List.length_cons, List.length_nil, mrLL_app, keyD_i, keyD_s, keyD_b, Nat.reduceAdd, Nat.reduceEqDiff, Nat.reduceLeDiff] <;> omega) | with_unfolding_all rfl | decide)) only [go_sem, Nat.reduceAdd, Nat.reduceSub, Nat.reduceMul, Nat.reduceLeDiff, Nat.reduceEqDiff, Nat.reduceBEq, reduceIte, reduceCtorEq, c_regencylaw17_BookGets, first17, List.length_map, e1]
  have e1 : decide ((b.length : Int) > 3000) = false := decide_eq_false h3
  have h1 := tnew_run (b := b) (h := []) (by omega)
  simp only [List.length_nil, List.nil_append] at h1
  have o0 : okS0 (b, none) := fun q => by cases q
  have hl1 : ∀ (H : AH) (X : Bx), (H ++ [X]).length = H.length + 1 := fun H X => by simp
  have hTr : Bx.cells [.str ⟨b.toArray⟩, .int .i64 0] = Tr (b, none) := rfl
  by_cases hg : ∃ ls s', getB 8 (b, none) = some (ls, s') ∧ s'.2 = none
  · obtain ⟨ls, s', hg, he⟩ := hg
    obtain ⟨hl8, hok⟩ := getB_ok 8 hg
    obtain ⟨js, h2⟩ := bget_run (h := []) (s := (b, none)) (by simp only; omega) hg he
    simp only [List.length_nil, List.nil_append, Nat.zero_add] at h2
    obtain ⟨H, hH⟩ : ∃ H : AH, H = Tb s' :: Bk ls :: js := ⟨_, rfl⟩
    rw [← hH] at h2
    have g1 : ∀ l : AH, (H ++ l)[1]? = some (Bk ls) := fun l => by rw [hH]; rfl
    have h4 := (rget_run (h := H ++ [Tr (b, none)]) (t := H.length) (s := (b, none)) (by rw [app_get0]; rfl) o0 (by simp only; omega)).1 ls s' hg
    rw [he, app_set0] at h4
    simp only [List.set_cons_zero, Option.isNone_none] at h4
    have h5 := fun l => byts_run (g1 l) hl8 (fun l hl => ⟨okL_n (hok l hl), okL_R (hok l hl)⟩)
    have hB : (shb ls).length = 8 := by rw [shb_len, hl8]
    have hst := fun cs hcs => st56 (b := shb ls) hB (cs := cs) hcs
    have hly : (xO (shb ls)).length = 56 := by rw [xO_len, hB]
    have hley : Nat.ble 56 (xO (shb ls)).length = true := by rw [hly]; rfl
    have htky : (xO (shb ls)).take 56 = xO (shb ls) := List.take_of_length_le (by omega)
    have hshy : shL (xO (shb ls)) = xO (shb ls) := by rw [shL_xO, shb_shb]
    have rb := rbyt_run hB (fun x hx => by
      obtain ⟨y, hy, rfl⟩ := List.mem_map.1 hx
      exact ⟨(show 0 ≤ y.1 ∧ y.1 ≤ 1048576 from okL_n (hok y hy)), fun _ => (show rigR (repL y) = true from okL_rig (hok y hy))⟩)
    rw [enL1_shb] at rb
    generalize ls.flatMap enL1 = S at *
    simp (maxSteps := 8000000) -implicitDefEqProofs (disch := (refine id_ok ?_; first | assumption | omega | (simp only [go_sem, List.size_toArray, List.length_map, List.length_append, List.length_take, List.length_drop, List.length_cons, List.length_nil, mrLL_app, keyD_i, keyD_s, keyD_b, Nat.reduceAdd, Nat.reduceEqDiff, Nat.reduceLeDiff] <;> omega) | with_unfolding_all rfl | decide)) only [go_sem, Nat.reduceAdd, Nat.reduceSub, Nat.reduceMul, Nat.reduceLeDiff, Nat.reduceEqDiff, Nat.reduceBEq, reduceIte, reduceCtorEq, c_regencylaw17_BookGets, first17, List.length_map, e1, h1, h2, hTr, h4, hl1, app_get, app_get0, app_set, app_set0, hst, h5, hley, htky, hshy, List.drop_zero, rb, show ((0 : Int) == 0) = true from rfl]
  · have hno : getB 8 (b, none) = none ∨ ∃ ls s', getB 8 (b, none) = some (ls, s') ∧ s'.2 ≠ none := by
      cases hh : getB 8 (b, none) with
      | none => exact .inl rfl
      | some q => exact .inr ⟨q.1, q.2, rfl, fun z => hg ⟨q.1, q.2, hh, z⟩⟩
    obtain ⟨s2, h2⟩ := bget_no (h := []) (s := (b, none)) (by simp only; omega) hno
    simp only [List.length_nil, List.nil_append] at h2
    have hr : ∃ (ls : List Ln) (s3 : TS), ls.length = 8 ∧ run T 20 [.box 1 0] [Tb s2, Tr (b, none)] = some (.tup [.agg (xO (shb ls)), .bool false], [Tb s2, Tr s3]) := by
      obtain ⟨q1, q2⟩ := rget_run (h := [Tb s2, Tr (b, none)]) (t := 1) (s := (b, none)) rfl o0 (by simp only; omega)
      rcases hno with hn | ⟨ls, s', hn, he⟩
      · obtain ⟨s', q⟩ := q2 hn
        exact ⟨newB, s', rfl, q⟩
      · have q := q1 ls s' hn
        have hni : s'.2.isNone = false := by cases hh : s'.2 with
          | none => exact absurd hh he
          | some c => rfl
        rw [hni] at q
        exact ⟨ls, s', (getB_ok 8 hn).1, q⟩
    obtain ⟨ls, s3, hl8, h4⟩ := hr
    have hB : (shb ls).length = 8 := by rw [shb_len, hl8]
    have hshy : shL (xO (shb ls)) = xO (shb ls) := by rw [shL_xO, shb_shb]
    have hst := fun cs hcs => st56 (b := shb ls) hB (cs := cs) hcs
    simp (maxSteps := 8000000) -implicitDefEqProofs (disch := (refine id_ok ?_; first | assumption | omega | (simp only [go_sem, List.size_toArray, List.length_map, List.length_append, List.length_take, List.length_drop, List.length_cons, List.length_nil, mrLL_app, keyD_i, keyD_s, keyD_b, Nat.reduceAdd, Nat.reduceEqDiff, Nat.reduceLeDiff] <;> omega) | with_unfolding_all rfl | decide)) only [go_sem, Nat.reduceAdd, Nat.reduceSub, Nat.reduceMul, Nat.reduceLeDiff, Nat.reduceEqDiff, Nat.reduceBEq, reduceIte, reduceCtorEq, c_regencylaw17_BookGets, first17, List.length_map, e1, h1, h2, hTr, h4, hst, hshy, show ((10 : Int) == 10) = true from rfl]
end Go.Proofs.YtjeigcnaalleiaaGreatDoor.L
