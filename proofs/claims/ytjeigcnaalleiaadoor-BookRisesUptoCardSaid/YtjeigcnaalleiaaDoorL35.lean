/- Books: read from a tape. -/
import Derived.Test.YtjeigcnaalleiaaDoorL34
set_option linter.all false
set_option maxRecDepth 100000
namespace Go.Proofs.YtjeigcnaalleiaaDoor.L
open Go.Proofs.YtjeigcnaalleiaaDoor.M Go.Proofs.YtjeigcnaalleiaaDoor.F Go.Proofs

theorem tnum_at0 {h : AH} {js : AH} {s : TS} {g : Nat} (hs : s.1.length ≤ 9223372036854775806) : run T 34 [.box h.length 0, .int .i64 g] (h ++ Tb s :: js) = some (.int .i64 (tapN g s).1, h ++ Tb (tapN g s).2 :: js) := by
  have := tnum_run (t := h.length) (g := g) (s := s) (h := h ++ Tb s :: js) (by rw [app_get0]; rfl) hs
  rw [app_set0] at this; exact this
theorem ttext_at0 {h : AH} {js : AH} {s : TS} {g : Nat} (hs : s.1.length ≤ 9223372036854775806) : run T 58 [.box h.length 0, .int .i64 g] (h ++ Tb s :: js) = some (.str ⟨(tapT g s).1.toArray⟩, h ++ Tb (tapT g s).2 :: js) := by
  have := ttext_run (t := h.length) (g := g) (s := s) (h := h ++ Tb s :: js) (by rw [app_get0]; rfl) hs
  rw [app_set0] at this; exact this
theorem terr_at0 {h : AH} {js : AH} {s : TS} : run T 35 [.box h.length 0] (h ++ Tb s :: js) = some (er s.2, h ++ Tb s :: js) :=
  terr_run (by rw [app_get0]; rfl)
def padB (p : List Ln) (d : Nat) : List Ln := p ++ List.replicate d (0, none)
theorem padB_set {p : List Ln} {d : Nat} {x : Ln} : (padB p (d + 1)).set p.length x = padB (p ++ [x]) d := by
  unfold padB
  rw [List.set_append_right _ _ (Nat.le_refl _), Nat.sub_self, List.replicate_succ, List.set_cons_zero, List.append_assoc, List.singleton_append]
theorem padB_succ {p : List Ln} {d : Nat} : padB p (d + 1) = padB (p ++ [(0, none)]) d := by
  unfold padB
  rw [List.replicate_succ, List.append_assoc, List.singleton_append]
attribute [local irreducible] tapN tapT parR
set_option maxHeartbeats 4000000 in
theorem get8_loop {h : AH} : ∀ (d : Nat) (p : List Ln) (s : TS) (js : AH) (ls : List Ln) (s' : TS), d + p.length = 8 → s.1.length < 140737488355328 → getB d s = some (ls, s') →
    ∃ js', den T (.loop l_clients_Get_0) (s_clients_Get_0 (.box h.length 0) (.box (h.length + 1) 0) (.int .i64 p.length)) (h ++ Tb s :: Bk (padB p d) :: js) = some (.exit 0, x_clients_Get_0 (.box h.length 0) (.box (h.length + 1) 0), h ++ Tb s' :: Bk (p ++ ls) :: js') := by
  intro d
  induction d with
  | zero =>
    intro p s js ls s' hd hs hg
    simp only [getB, Option.some.injEq, Prod.mk.injEq] at hg
    obtain ⟨rfl, rfl⟩ := hg
    have hd' : decide ((p.length : Int) < 8) = false := decide_eq_false (by omega)
    have e : padB p 0 = p := by simp [padB]
    refine ⟨js, ?_⟩
    rw [e, List.append_nil]
    rw [lp_round]
    simp -implicitDefEqProofs (disch := (refine id_ok ?_; first | assumption | omega | (simp only [go_sem, List.length_map, List.length_append, List.length_take, List.length_drop, mrLL_app, keyD_i, keyD_s, keyD_b, Nat.reduceAdd, Nat.reduceEqDiff, Nat.reduceLeDiff] <;> omega) | with_unfolding_all rfl | decide)) only [go_sem, Nat.reduceAdd, Nat.reduceSub, Nat.reduceMul, Nat.reduceLeDiff, Nat.reduceEqDiff, Nat.reduceBEq, reduceIte, reduceCtorEq, hd']
  | succ d ih =>
    intro p s js ls s' hd hs hg
    have hd' : decide ((p.length : Int) < 8) = true := decide_eq_true (by omega)
    have t1 := fun js => tnum_at0 (h := h) (js := js) (s := s) (g := 1048576) (by omega)
    simp only [show ((1048576 : Nat) : Int) = 1048576 from rfl] at t1
    have l1 := tapN_len 1048576 s
    have e7 : IntKind.i64.wrap ((p.length : Int) + 1) = ((p.length + 1 : Nat) : Int) := by rw [w64 (by omega) (by omega)]; rfl
    rw [getB] at hg
    generalize tapN 1048576 s = x at *
    obtain ⟨n, s2⟩ := x
    simp only at hg t1 l1
    by_cases hn : n = 0
    · subst hn
      rw [if_pos rfl, Option.map_eq_some_iff] at hg
      obtain ⟨⟨ls2, s3⟩, hg2, he⟩ := hg
      simp only [Prod.mk.injEq] at he
      obtain ⟨rfl, rfl⟩ := he
      obtain ⟨js', hj⟩ := ih (p ++ [(0, none)]) s2 js ls2 s3 (by simp; omega) (by omega) hg2
      refine ⟨js', ?_⟩
      rw [← padB_succ, List.length_append, List.length_cons, List.length_nil, List.append_assoc, List.singleton_append] at hj
      rw [lp_round]
      simp (maxSteps := 2000000) -implicitDefEqProofs (disch := (refine id_ok ?_; first | assumption | omega | (simp only [go_sem, List.length_map, List.length_append, List.length_take, List.length_drop, mrLL_app, keyD_i, keyD_s, keyD_b, Nat.reduceAdd, Nat.reduceEqDiff, Nat.reduceLeDiff] <;> omega) | with_unfolding_all rfl | decide)) only [go_sem, Nat.reduceAdd, Nat.reduceSub, Nat.reduceMul, Nat.reduceLeDiff, Nat.reduceEqDiff, Nat.reduceBEq, reduceIte, reduceCtorEq, hd', t1, show (((0 : Nat) : Int) == 0) = true from rfl, e7]
      exact hj
    · rw [if_neg hn] at hg
      have t2 := fun js => ttext_at0 (h := h) (js := js) (s := s2) (g := 2048) (by omega)
      simp only [show ((2048 : Nat) : Int) = 2048 from rfl] at t2
      have l2 := tapT_len 2048 s2
      have l3 := tapT_str 2048 s2
      generalize tapT 2048 s2 = y at *
      obtain ⟨tx, s4⟩ := y
      simp only at hg t2 l2 l3
      have t3 := fun h => parR_run (b := tx) (h := h) (by omega)
      cases hp : parR tx with
      | none => rw [hp] at hg; cases hg
      | some r =>
        rw [hp] at hg
        simp only [Option.map_eq_some_iff] at hg
        obtain ⟨⟨ls2, s3⟩, hg2, he⟩ := hg
        simp only [Prod.mk.injEq] at he
        obtain ⟨rfl, rfl⟩ := he
        have hres : repRes tx = .tup [.agg (encR r), .nili] := by unfold repRes; rw [hp]
        rw [hres] at t3
        obtain ⟨js', hj⟩ := ih (p ++ [((n : Int), some r)]) s4 (js ++ [.cells (encR r)]) ls2 s3 (by simp; omega) (by omega) hg2
        refine ⟨js', ?_⟩
        rw [List.length_append, List.length_cons, List.length_nil, List.append_assoc p, List.singleton_append] at hj
        have e1 : ((n : Int) == 0) = false := by simp; omega
        have hpl : (padB p (d + 1)).length = 8 := by simp [padB]; omega
        have hov := flat_ovl (b := padB p (d + 1)) (i := p.length) ((n : Int), some r) (by rw [hpl]; omega)
        rw [padB_set] at hov
        have hle : Nat.ble (p.length * 7 + 7) ((padB p (d + 1)).flatMap encL).length = true := by rw [flat_len, hpl]; exact Nat.ble_eq_true_of_le (by omega)
        have hlJ : ∀ X Y : Bx, (h ++ X :: Y :: js).length = h.length + (2 + js.length) := fun X Y => by simp; omega
        have gJ : ∀ a b c : Bx, (a :: b :: (js ++ [c]))[2 + js.length]? = some c := fun a b c => by rw [Nat.add_comm]; simp
        have sJ : ∀ a b c x : Bx, (a :: b :: (js ++ [c])).set (2 + js.length) x = a :: b :: (js ++ [x]) := fun a b c x => by rw [Nat.add_comm]; simp
        simp only [encL, encO, encR, ovl, List.cons_append, List.nil_append, List.length_cons, List.length_nil, List.append_assoc, Nat.zero_add, Nat.reduceAdd] at hov
        simp only [encR] at t3 hj
        rw [lp_round]
        simp (maxSteps := 2000000) -implicitDefEqProofs (disch := (refine id_ok ?_; first | assumption | omega | (simp only [go_sem, List.length_map, List.length_append, List.length_take, List.length_drop, mrLL_app, keyD_i, keyD_s, keyD_b, Nat.reduceAdd, Nat.reduceEqDiff, Nat.reduceLeDiff] <;> omega) | with_unfolding_all rfl | decide)) only [go_sem, Nat.reduceAdd, Nat.reduceSub, Nat.reduceMul, Nat.reduceLeDiff, Nat.reduceEqDiff, Nat.reduceBEq, reduceIte, reduceCtorEq, hd', t1, t2, t3, e1, e7, Int.toNat_natCast, hlJ, gJ, sJ, app_get, app_set, app_get0, app_set0, Bk, hle]
        rw [hov]
        exact hj
theorem bget_run {h : AH} {s s' : TS} {ls : List Ln} (hs : s.1.length < 140737488355328) (hg : getB 8 s = some (ls, s')) (he : s'.2 = none) :
    ∃ js', run T 31 [.box h.length 0] (h ++ [Tb s]) = some (.tup [.box (h.length + 1) 0, .int .i64 0], h ++ Tb s' :: Bk ls :: js') := by
  obtain ⟨js', h1⟩ := get8_loop (h := h) 8 [] s [] ls s' rfl hs hg
  simp only [List.length_nil, show ((0 : Nat) : Int) = 0 from rfl, List.nil_append, show padB [] 8 = newB from rfl] at h1
  refine ⟨js', ?_⟩
  have h2 := bnew_run (h := h ++ [Tb s])
  have hl1 : ∀ X : Bx, (h ++ [X]).length = h.length + 1 := fun X => by simp
  have h3 := fun js => terr_at0 (h := h) (js := js) (s := s')
  rw [he] at h3
  simp only [hl1, List.append_assoc, List.cons_append, List.nil_append] at h2
  rw [run_code T_31]
  simp (maxSteps := 2000000) -implicitDefEqProofs (disch := (refine id_ok ?_; first | assumption | omega | (simp only [go_sem, List.length_map, List.length_append, List.length_take, List.length_drop, mrLL_app, keyD_i, keyD_s, keyD_b, Nat.reduceAdd, Nat.reduceEqDiff, Nat.reduceLeDiff] <;> omega) | with_unfolding_all rfl | decide)) only [go_sem, Nat.reduceAdd, Nat.reduceSub, Nat.reduceMul, Nat.reduceLeDiff, Nat.reduceEqDiff, Nat.reduceBEq, reduceIte, reduceCtorEq, c_clients_Get, h2, h1, h3]
  rw [gc_keep (by simp only [AV.mr, mrL, List.length_append, List.length_cons, List.length_nil]; omega)]
end Go.Proofs.YtjeigcnaalleiaaDoor.L
