/- Calls: read from a tape; parsed. -/
import Derived.Test.YtlcflpanellbfaaGreatDoorL107
import Derived.Test.YtlcflpanellbfaaGreatDoorL57
set_option linter.all false
set_option maxRecDepth 100000
set_option maxHeartbeats 32000000
namespace Go.Proofs.YtlcflpanellbfaaGreatDoor.L
open Go.Proofs.YtlcflpanellbfaaGreatDoor.M Go.Proofs.YtlcflpanellbfaaGreatDoor.F Go.Proofs
theorem gc_set2 {h : AH} {a b : Nat} {X Y : Bx} {r : AV} : gc h r ((h.set a X).set b Y) = some (r, (h.set a X).set b Y) := gc_len (by simp)
attribute [go_sem] gc_set2
def gtS (x : Cal × TS) (p : Int) : Cal × TS :=
  if p = 0 then ({ x.1 with at_ := (gtP x.2).1 }, (gtP x.2).2.2) else if p = 1 then ({ x.1 with lab := (getL x.2).1 }, (getL x.2).2.2) else
  if p = 2 then ({ x.1 with n := ((tapN 1048576 x.2).1 : Nat) }, (tapN 1048576 x.2).2) else if p = 3 then ({ x.1 with m := ((tapN 1048576 x.2).1 : Nat) }, (tapN 1048576 x.2).2) else
  if p = 4 then ({ x.1 with ent := (getL x.2).1 }, (getL x.2).2.2) else if p = 5 then ({ x.1 with own := (getO x.2).1 }, (getO x.2).2.2) else
  if p = 6 then ({ x.1 with text := (tapT 256 x.2).1 }, (tapT 256 x.2).2) else if p = 7 then ({ x.1 with cat := (tapT 80 x.2).1 }, (tapT 80 x.2).2) else
  if p = 8 then ({ x.1 with seg := (gtP x.2).1 }, (gtP x.2).2.2) else if p = 9 then ({ x.1 with write := (((tapN 1 x.2).1 : Nat) : Int) == 1 }, (tapN 1 x.2).2) else
  if p = 10 then ({ x.1 with n := ((tapN 2097152 x.2).1 : Nat) - 1048576 }, (tapN 2097152 x.2).2) else x
theorem getL_leS (s : TS) : (getL s).2.2.1.length ≤ s.1.length := (getL_len s).1
theorem gtP_leS (s : TS) : (gtP s).2.2.1.length ≤ s.1.length := by
  have l1 := tapN_len 6 s
  have l2 := (getP_len (tapN 6 s).1 (tapN 6 s).2).1
  unfold gtP; split <;> (dsimp only; omega)
theorem gtP_6 (s : TS) : (gtP s).1.length ≤ 6 := by
  have l1 := tapN_le 6 s
  have l2 := (getP_len (tapN 6 s).1 (tapN 6 s).2).2
  unfold gtP; split
  · dsimp only; omega
  · simp
theorem getO_leS (s : TS) : (getO s).2.2.1.length ≤ s.1.length := by
  have l1 := tapN_len 8 s
  have l2 := (getSs_len (tapN 8 s).1 (tapN 8 s).2).1
  unfold getO; dsimp only; split <;> (dsimp only; omega)
theorem getO_ok (s : TS) : (getO s).1.length ≤ 8 ∧ ∀ c ∈ (getO s).1, c.length ≤ 60 := by
  unfold getO; dsimp only; split
  · rename_i h
    exact ⟨(rigO_all h.2).1, fun c hc => ((rigO_all h.2).2 c hc).2⟩
  · exact ⟨by simp, fun c hc => by cases hc⟩
theorem getL_ok (s : TS) : (getL s).1.length ≤ 8 ∧ ∀ e ∈ (getL s).1, e.1.length ≤ 60 := by
  unfold getL; dsimp only; split
  · rename_i h
    exact ⟨(rigL_all h.2).1, fun e he => ((rigL_all h.2).2 e he).1⟩
  · exact ⟨by simp, fun c hc => by cases hc⟩
theorem gtS_le (x : Cal × TS) (p : Int) (hp : 0 ≤ p ∧ p ≤ 10) : (gtS x p).2.1.length ≤ x.2.1.length := by
  rcases p_cases hp with rfl | rfl | rfl | rfl | rfl | rfl | rfl | rfl | rfl | rfl | rfl
  all_goals simp only [gtS, Int.reduceEq, if_true, if_false, reduceIte]
  · exact gtP_leS _
  · exact getL_leS _
  · exact tapN_len _ _
  · exact tapN_len _ _
  · exact getL_leS _
  · exact getO_leS _
  · exact tapT_len _ _
  · exact tapT_len _ _
  · exact gtP_leS _
  · exact tapN_len _ _
  · exact tapN_len _ _
theorem gtS_ok (x : Cal × TS) (p : Int) (hp : 0 ≤ p ∧ p ≤ 10) (hx : okC x.1) (hs : x.2.1.length ≤ 1000000) : okC (gtS x p).1 := by
  have a1 := gtP_6 x.2
  obtain ⟨a2, a3⟩ := getL_ok x.2
  obtain ⟨a4, a5⟩ := getO_ok x.2
  have a6 := tapT_str 256 x.2
  have a7 := tapT_str 80 x.2
  rcases p_cases hp with rfl | rfl | rfl | rfl | rfl | rfl | rfl | rfl | rfl | rfl | rfl
  all_goals simp only [gtS, Int.reduceEq, if_true, if_false, reduceIte]
  · exact ⟨by dsimp only; omega, hx.lab, hx.ent, hx.own, hx.text, hx.seg, hx.labS, hx.entS, hx.ownS, hx.catS⟩
  · exact ⟨hx.at_, by dsimp only; omega, hx.ent, hx.own, hx.text, hx.seg, fun e he => by have := a3 e he; omega, hx.entS, hx.ownS, hx.catS⟩
  · exact ⟨hx.at_, hx.lab, hx.ent, hx.own, hx.text, hx.seg, hx.labS, hx.entS, hx.ownS, hx.catS⟩
  · exact ⟨hx.at_, hx.lab, hx.ent, hx.own, hx.text, hx.seg, hx.labS, hx.entS, hx.ownS, hx.catS⟩
  · exact ⟨hx.at_, hx.lab, by dsimp only; omega, hx.own, hx.text, hx.seg, hx.labS, fun e he => by have := a3 e he; omega, hx.ownS, hx.catS⟩
  · exact ⟨hx.at_, hx.lab, hx.ent, by dsimp only; omega, hx.text, hx.seg, hx.labS, hx.entS, fun e he => by have := a5 e he; omega, hx.catS⟩
  · exact ⟨hx.at_, hx.lab, hx.ent, hx.own, by dsimp only; omega, hx.seg, hx.labS, hx.entS, hx.ownS, hx.catS⟩
  · exact ⟨hx.at_, hx.lab, hx.ent, hx.own, hx.text, hx.seg, hx.labS, hx.entS, hx.ownS, by dsimp only; omega⟩
  · exact ⟨hx.at_, hx.lab, hx.ent, hx.own, hx.text, by dsimp only; omega, hx.labS, hx.entS, hx.ownS, hx.catS⟩
  · exact ⟨hx.at_, hx.lab, hx.ent, hx.own, hx.text, hx.seg, hx.labS, hx.entS, hx.ownS, hx.catS⟩
  · exact ⟨hx.at_, hx.lab, hx.ent, hx.own, hx.text, hx.seg, hx.labS, hx.entS, hx.ownS, hx.catS⟩
def owG (f : Bool) (c : Cal) : List AV := [.int .i64 c.op, ow (c.at_.map encI), ow (c.lab.map encE), ow (c.ent.map encE), ow (c.own.map encT), .int .i64 c.n, .int .i64 c.m, (if f = true then .sl .sh (c.text.map encB) else ow (c.text.map encB)), .str ⟨c.cat.toArray⟩, ow (c.seg.map encI), .bool c.write]
theorem pgetp_run {f : Bool} {x : Cal × TS} {p : Int} {t k : Nat} {H : AH} (ht : H[t]? = some (Tb x.2)) (hk : H[k]? = some (.cells (owG f x.1))) (htk : t ≠ k) (hp : 0 ≤ p ∧ p ≤ 10) (hs : x.2.1.length ≤ 1000000) :
    run U 55 [.int .i64 p, .box t 0, .box k 0] H = some (.tup [], (H.set t (Tb (gtS x p).2)).set k (.cells (owG (f || p == 6) (gtS x p).1))) := by
  have hlt : t < H.length := (List.getElem?_eq_some_iff.1 ht).1
  have hkX : ∀ X : Bx, (H.set t X)[k]? = some (.cells (owG f x.1)) := fun X => by rw [List.getElem?_set_ne htk]; exact hk
  obtain ⟨c, s⟩ := x
  simp only at ht hk hs hkX
  obtain ⟨a1, a2, a3, a4, a5, a6, a7, a8, a9, a10, a11⟩ := c
  rw [run_code (show U 55 = some (.code c_call_part_get) from rfl)]
  cases f
  all_goals simp only [owG, Bool.false_eq_true, if_true, if_false] at hkX
  all_goals
    rcases p_cases hp with rfl | rfl | rfl | rfl | rfl | rfl | rfl | rfl | rfl | rfl | rfl
    all_goals simp only [gtS, owG, Int.reduceEq, if_true, if_false, reduceIte, Int.reduceBEq, Bool.or_true, Bool.or_false, Bool.true_or, Bool.false_or, Bool.false_eq_true]
    · have q := upU (pget_run ht (by omega))
      simp (maxSteps := 4000000) -implicitDefEqProofs (disch := (refine id_ok ?_; first | assumption | omega | (simp [go_sem] <;> omega) | with_unfolding_all rfl | decide)) only [go_sem, Nat.reduceAdd, Nat.reduceSub, Nat.reduceMul, Nat.reduceLeDiff, Nat.reduceEqDiff, Nat.reduceBEq, reduceIte, reduceCtorEq, c_call_part_get, Int.reduceBEq, q, hkX]
    · have q := upU (lget_run ht (by omega))
      simp (maxSteps := 4000000) -implicitDefEqProofs (disch := (refine id_ok ?_; first | assumption | omega | (simp [go_sem] <;> omega) | with_unfolding_all rfl | decide)) only [go_sem, Nat.reduceAdd, Nat.reduceSub, Nat.reduceMul, Nat.reduceLeDiff, Nat.reduceEqDiff, Nat.reduceBEq, reduceIte, reduceCtorEq, c_call_part_get, Int.reduceBEq, q, hkX]
    · have q := upU (tnum_run (g := 1048576) ht (by omega))
      simp only [show ((1048576 : Nat) : Int) = 1048576 from rfl] at q
      simp (maxSteps := 4000000) -implicitDefEqProofs (disch := (refine id_ok ?_; first | assumption | omega | (simp [go_sem] <;> omega) | with_unfolding_all rfl | decide)) only [go_sem, Nat.reduceAdd, Nat.reduceSub, Nat.reduceMul, Nat.reduceLeDiff, Nat.reduceEqDiff, Nat.reduceBEq, reduceIte, reduceCtorEq, c_call_part_get, Int.reduceBEq, q, hkX]
    · have q := upU (tnum_run (g := 1048576) ht (by omega))
      simp only [show ((1048576 : Nat) : Int) = 1048576 from rfl] at q
      simp (maxSteps := 4000000) -implicitDefEqProofs (disch := (refine id_ok ?_; first | assumption | omega | (simp [go_sem] <;> omega) | with_unfolding_all rfl | decide)) only [go_sem, Nat.reduceAdd, Nat.reduceSub, Nat.reduceMul, Nat.reduceLeDiff, Nat.reduceEqDiff, Nat.reduceBEq, reduceIte, reduceCtorEq, c_call_part_get, Int.reduceBEq, q, hkX]
    · have q := upU (lget_run ht (by omega))
      simp (maxSteps := 4000000) -implicitDefEqProofs (disch := (refine id_ok ?_; first | assumption | omega | (simp [go_sem] <;> omega) | with_unfolding_all rfl | decide)) only [go_sem, Nat.reduceAdd, Nat.reduceSub, Nat.reduceMul, Nat.reduceLeDiff, Nat.reduceEqDiff, Nat.reduceBEq, reduceIte, reduceCtorEq, c_call_part_get, Int.reduceBEq, q, hkX]
    · have q := oget_run ht (by omega)
      simp (maxSteps := 4000000) -implicitDefEqProofs (disch := (refine id_ok ?_; first | assumption | omega | (simp [go_sem] <;> omega) | with_unfolding_all rfl | decide)) only [go_sem, Nat.reduceAdd, Nat.reduceSub, Nat.reduceMul, Nat.reduceLeDiff, Nat.reduceEqDiff, Nat.reduceBEq, reduceIte, reduceCtorEq, c_call_part_get, Int.reduceBEq, q, hkX]
    · have q := upU (ttext_run (g := 256) ht (by omega))
      simp only [show ((256 : Nat) : Int) = 256 from rfl] at q
      have l1 := tapT_str 256 s
      simp (maxSteps := 4000000) -implicitDefEqProofs (disch := (refine id_ok ?_; first | assumption | omega | (simp [go_sem] <;> omega) | with_unfolding_all rfl | decide)) only [go_sem, Nat.reduceAdd, Nat.reduceSub, Nat.reduceMul, Nat.reduceLeDiff, Nat.reduceEqDiff, Nat.reduceBEq, reduceIte, reduceCtorEq, c_call_part_get, Int.reduceBEq, q, hkX]
    · have q := upU (ttext_run (g := 80) ht (by omega))
      simp only [show ((80 : Nat) : Int) = 80 from rfl] at q
      simp (maxSteps := 4000000) -implicitDefEqProofs (disch := (refine id_ok ?_; first | assumption | omega | (simp [go_sem] <;> omega) | with_unfolding_all rfl | decide)) only [go_sem, Nat.reduceAdd, Nat.reduceSub, Nat.reduceMul, Nat.reduceLeDiff, Nat.reduceEqDiff, Nat.reduceBEq, reduceIte, reduceCtorEq, c_call_part_get, Int.reduceBEq, q, hkX]
    · have q := upU (pget_run ht (by omega))
      simp (maxSteps := 4000000) -implicitDefEqProofs (disch := (refine id_ok ?_; first | assumption | omega | (simp [go_sem] <;> omega) | with_unfolding_all rfl | decide)) only [go_sem, Nat.reduceAdd, Nat.reduceSub, Nat.reduceMul, Nat.reduceLeDiff, Nat.reduceEqDiff, Nat.reduceBEq, reduceIte, reduceCtorEq, c_call_part_get, Int.reduceBEq, q, hkX]
    · have q := upU (tflag_run ht (by omega))
      simp (maxSteps := 4000000) -implicitDefEqProofs (disch := (refine id_ok ?_; first | assumption | omega | (simp [go_sem] <;> omega) | with_unfolding_all rfl | decide)) only [go_sem, Nat.reduceAdd, Nat.reduceSub, Nat.reduceMul, Nat.reduceLeDiff, Nat.reduceEqDiff, Nat.reduceBEq, reduceIte, reduceCtorEq, c_call_part_get, Int.reduceBEq, q, hkX]
    · have q := upU (tnum_run (g := 2097152) ht (by omega))
      simp only [show ((2097152 : Nat) : Int) = 2097152 from rfl] at q
      have l1 := tapN_le 2097152 s
      have e1 : IntKind.i64.wrap (((tapN 2097152 s).1 : Int) - 1048576) = ((tapN 2097152 s).1 : Int) - 1048576 := w64 (by omega) (by omega)
      simp (maxSteps := 4000000) -implicitDefEqProofs (disch := (refine id_ok ?_; first | assumption | omega | (simp [go_sem] <;> omega) | with_unfolding_all rfl | decide)) only [go_sem, Nat.reduceAdd, Nat.reduceSub, Nat.reduceMul, Nat.reduceLeDiff, Nat.reduceEqDiff, Nat.reduceBEq, reduceIte, reduceCtorEq, c_call_part_get, Int.reduceBEq, q, hkX, e1]
end Go.Proofs.YtlcflpanellbfaaGreatDoor.L
/- Calls: read whole; parsed. -/
set_option linter.all false
set_option maxRecDepth 100000
set_option maxHeartbeats 32000000
namespace Go.Proofs.YtlcflpanellbfaaGreatDoor.L
open Go.Proofs.YtlcflpanellbfaaGreatDoor.M Go.Proofs.YtlcflpanellbfaaGreatDoor.F Go.Proofs
theorem aSL_f {v : AV} {S : List Nat} : addSL (some false) v S = S := by cases v <;> rfl
theorem bq_tf : ((true : Bool) == false) = false := rfl
theorem bq_tt : ((true : Bool) == true) = true := rfl
theorem bq_ff : ((false : Bool) == false) = true := rfl
theorem bq_ft : ((false : Bool) == true) = false := rfl
attribute [go_sem] aSL_f bq_tf bq_tt bq_ff bq_ft
theorem mrLL_B : ∀ {p : List UInt8}, mrLL (p.map encB) = 0
  | [] => rfl
  | a :: p => by simp only [List.map_cons, mrLL, mrLL_B (p := p)]; rfl
theorem cget_loop {ps : List Int} {t k : Nat} {v2 v4 : AV} (hr : ∀ p ∈ ps, 0 ≤ p ∧ p ≤ 10) (hn : ps.length ≤ 6) (htk : t ≠ k) (v2h : v2.sh = v2) (v4h : v4.sh = v4) : ∀ (d i : Nat) (f : Bool) (x : Cal × TS) (H : AH), d + i = ps.length → H[t]? = some (Tb x.2) → H[k]? = some (.cells (owG f x.1)) → x.2.1.length ≤ 1000000 →
    ∃ f', den U (.loop l_call_Get_0) (s_call_Get_0 (.box t 0) v2 v4 (.box k 0) (.sl .ex (ps.map encI)) (.int .i64 ps.length) (.int .i64 i)) H = some (.exit 0, x_call_Get_0 (.box t 0) v2 v4 (.box k 0), (H.set t (Tb ((ps.drop i).foldl gtS x).2)).set k (.cells (owG f' ((ps.drop i).foldl gtS x).1))) := by
  intro d
  induction d with
  | zero =>
    intro i f x H hd ht hk hs
    have hd' : decide ((i : Int) < ps.length) = false := decide_eq_false (by omega)
    rw [List.drop_eq_nil_of_le (by omega), List.foldl_nil, set_same ht]
    refine ⟨f, ?_⟩
    rw [set_same hk]
    rw [lp_round]
    simp -implicitDefEqProofs (disch := (refine id_ok ?_; first | assumption | omega | (simp [go_sem] <;> omega) | with_unfolding_all rfl | decide)) only [go_sem, Nat.reduceAdd, Nat.reduceSub, Nat.reduceMul, Nat.reduceLeDiff, Nat.reduceEqDiff, Nat.reduceBEq, reduceIte, reduceCtorEq, hd']
  | succ d ih =>
    intro i f x H hd ht hk hs
    have hlt : t < H.length := (List.getElem?_eq_some_iff.1 ht).1
    have hlk : k < H.length := (List.getElem?_eq_some_iff.1 hk).1
    have hib : i < ps.length := by omega
    have hd' : decide ((i : Int) < ps.length) = true := decide_eq_true (by omega)
    have hge : (ps.map encI)[(i : Int).toNat]? = some (encI ps[i]) := by simp [hib]
    have hdr : ps.drop i = ps[i] :: ps.drop (i + 1) := List.drop_eq_getElem_cons hib
    have e7 := incP (n := i) (by omega)
    have hp := hr ps[i] (by simp)
    rw [hdr, List.foldl_cons]
    generalize ps[i] = p at *
    have h1 := pgetp_run ht hk htk hp hs
    have hle := gtS_le x p hp
    obtain ⟨f', ih'⟩ := ih (i + 1) (f || p == 6) (gtS x p) ((H.set t (Tb (gtS x p).2)).set k (.cells (owG (f || p == 6) (gtS x p).1))) (by omega) (by rw [List.getElem?_set_ne (fun z => htk z.symm), List.getElem?_set_self hlt]) (by rw [List.getElem?_set_self (by simpa using hlk)]) (by omega)
    have hss : ∀ (A B C D : Bx), (((H.set t A).set k B).set t C).set k D = (H.set t C).set k D := fun A B C D => by
      rw [List.set_comm B C (fun z => htk z.symm), List.set_set, List.set_set]
    rw [hss] at ih'
    refine ⟨f', ?_⟩
    simp only [encI] at hge
    clear ih
    generalize gtS x p = y at *
    rw [lp_round]
    simp (maxSteps := 2000000) -implicitDefEqProofs (disch := (refine id_ok ?_; first | assumption | omega | (simp [go_sem] <;> omega) | with_unfolding_all rfl | decide)) only [go_sem, Nat.reduceAdd, Nat.reduceSub, Nat.reduceMul, Nat.reduceLeDiff, Nat.reduceEqDiff, Nat.reduceBEq, reduceIte, reduceCtorEq, hd', hge, h1, e7]
    exact ih'
def rdCal (s : TS) : Cal × TS := (pL ((tapN 20 s).1 : Nat)).foldl gtS (zeroC ((tapN 20 s).1 : Nat), (tapN 20 s).2)
def getCal (s : TS) : Cal × Int × TS :=
  if (rdCal s).2.2.isSome = false ∧ s.1.length - (rdCal s).2.1.length = (bytCal (rdCal s).1).length then ((rdCal s).1, 0, (rdCal s).2) else (zeroC 0, 10, (rdCal s).2)
theorem gfold_le : ∀ (ps : List Int) (x : Cal × TS), (∀ p ∈ ps, 0 ≤ p ∧ p ≤ 10) → (ps.foldl gtS x).2.1.length ≤ x.2.1.length
  | [], x, _ => Nat.le_refl _
  | p :: ps, x, h => Nat.le_trans (gfold_le ps (gtS x p) fun q hq => h q (by simp [hq])) (gtS_le x p (h p (by simp)))
theorem gfold_ok : ∀ (ps : List Int) (x : Cal × TS), (∀ p ∈ ps, 0 ≤ p ∧ p ≤ 10) → okC x.1 → x.2.1.length ≤ 1000000 → okC (ps.foldl gtS x).1
  | [], x, _, hx, _ => hx
  | p :: ps, x, h, hx, hs => gfold_ok ps (gtS x p) (fun q hq => h q (by simp [hq])) (gtS_ok x p (h p (by simp)) hx hs) (Nat.le_trans (gtS_le x p (h p (by simp))) hs)
theorem rdCal_le (s : TS) : (rdCal s).2.1.length ≤ s.1.length := Nat.le_trans (gfold_le _ _ (pL_rng _).2) (tapN_len _ _)
theorem rdCal_ok {s : TS} (hs : s.1.length ≤ 1000000) : okC (rdCal s).1 := gfold_ok _ _ (pL_rng _).2 (zeroC_ok _) (Nat.le_trans (tapN_len _ _) hs)
theorem owG_zero (op : Int) : owG false (zeroC op) = owC (zeroC op) := rfl
theorem cget_run {t : Nat} {s : TS} {H : AH} (ht : H[t]? = some (Tb s)) (hs : s.1.length ≤ 1000000) :
    run U 17 [.box t 0] H = some (.tup [.agg (encC (getCal s).1), .int .i64 (getCal s).2.1], H.set t (Tb (getCal s).2.2)) := by
  have hlt : t < H.length := (List.getElem?_eq_some_iff.1 ht).1
  have hne : t ≠ H.length + 1 := by omega
  have w1 : ∀ l : AH, (H ++ l)[t]? = some (Tb s) := fun l => by rw [List.getElem?_append_left hlt]; exact ht
  have w2 : ∀ (l : AH) (X : Bx), (H ++ l).set t X = H.set t X ++ l := fun l X => List.set_append_left _ _ hlt
  have w3 : ∀ (l : AH) (X : Bx), (H.set t X ++ l)[t]? = some X := fun l X => by rw [List.getElem?_append_left (by simpa using hlt), List.getElem?_set_self hlt]
  have w4 : ∀ (l : AH) (X Y : Bx), (H.set t X ++ l).set t Y = H.set t Y ++ l := fun l X Y => by rw [List.set_append_left _ _ (by simpa using hlt), List.set_set]
  have g0 : ∀ (X A B : Bx), (H.set t X ++ [A, B])[H.length]? = some A := fun X A B => by rw [List.getElem?_append_right (by simp)]; simp
  have g1 : ∀ (X A B : Bx), (H.set t X ++ [A, B])[H.length + 1]? = some B := fun X A B => by rw [List.getElem?_append_right (by simp)]; simp
  have s0 : ∀ (X A B C : Bx), (H.set t X ++ [A, B]).set H.length C = H.set t X ++ [C, B] := fun X A B C => by rw [List.set_append_right _ _ (by simp)]; simp
  have s1 : ∀ (X A B C : Bx), (H.set t X ++ [A, B]).set (H.length + 1) C = H.set t X ++ [A, C] := fun X A B C => by rw [List.set_append_right _ _ (by simp)]; simp
  have l1 := tapN_len 20 s
  have l2 := tapN_le 20 s
  have l3 := rdCal_le s
  have hok := rdCal_ok hs
  have q1 := upU (tleft_run (w1 [.cells (owC (zeroC 0))]))
  have q2 := upU (tnum_run (g := 20) (w1 [.cells (owC (zeroC 0))]) (by omega))
  simp only [show ((20 : Nat) : Int) = 20 from rfl] at q2
  rw [w2] at q2
  have q3 := upU (parts_run (op := ((tapN 20 s).1 : Nat)))
  obtain ⟨f', q4⟩ := cget_loop (ps := pL ((tapN 20 s).1 : Nat)) (t := t) (k := H.length + 1) (v2 := .box H.length 0) (v4 := .int .i64 (s.1.length : Nat)) (pL_rng _).2 (pL_rng _).1 hne rfl rfl (pL ((tapN 20 s).1 : Nat)).length 0 false (zeroC ((tapN 20 s).1 : Nat), (tapN 20 s).2) (H.set t (Tb (tapN 20 s).2) ++ [Bx.cells (owC (zeroC 0)), .cells (owC (zeroC ((tapN 20 s).1 : Nat)))]) (by omega) (w3 _ _) (g1 _ _ _) (by simp only; omega)
  simp only [show ((0 : Nat) : Int) = 0 from rfl, List.drop_zero] at q4
  rw [w4, s1] at q4
  have hrd : (pL ((tapN 20 s).1 : Nat)).foldl gtS (zeroC ((tapN 20 s).1 : Nat), (tapN 20 s).2) = rdCal s := rfl
  rw [hrd] at q4
  unfold getCal
  generalize rdCal s = y at *
  generalize tapN 20 s = x at *
  obtain ⟨c, b, e⟩ := y
  obtain ⟨n, s2⟩ := x
  have q5 := upU (terr_run (t := t) (s := (b, e)) (w3 [Bx.cells (owC (zeroC 0)), .cells (owG f' c)] (Tb (b, e))))
  have q6 := upU (tleft_run (t := t) (s := (b, e)) (w3 [Bx.cells (owC (zeroC 0)), .cells (owG f' c)] (Tb (b, e))))
  have q7 := cbytes_run hok
  have q8 := bytCal_len c
  clear hok hrd
  have e1 : IntKind.i64.wrap ((s.1.length : Int) - (b.length : Int)) = ((s.1.length - b.length : Nat) : Int) := by simp only at l3; rw [w64 (by omega) (by omega)]; omega
  simp only at q1 q2 q3 q4 q5 q6 q7 q8 e1 l1 l2 l3 ⊢
  generalize hbc : bytCal c = bc at *
  generalize pL ((n : Nat) : Int) = ps at *
  rw [run_code (show U 17 = some (.code c_call_Get) from rfl)]
  obtain ⟨a1, a2, a3, a4, a5, a6, a7, a8, a9, a10, a11⟩ := c
  have kd : ∀ (l : AH) (X : List UInt8 × Option Int) (r : AV), r.mr = 0 → gc H r (H.set t (Tb X) ++ l) = some (r, H.set t (Tb X)) := fun l X r hr => gc_dropS hr (by
    obtain ⟨X1, X2⟩ := X
    cases X2 <;> simp only [Tb, Tp, mrB, mrL, AV.mr, mrLL_B, er] <;> rfl)
  simp only [owC, zeroC, List.map_nil, encC] at q1 q2 q4 q5 q6 q7 ⊢
  cases e with
  | some v =>
    cases f'
    all_goals
      simp only [owG, Bool.false_eq_true, if_true, if_false] at q4 q5 q6
      simp only [Option.isSome_some, Bool.true_eq_false, false_and, if_false]
      simp (maxSteps := 4000000) -implicitDefEqProofs (disch := (refine id_ok ?_; first | assumption | omega | (simp [go_sem] <;> omega) | with_unfolding_all rfl | decide)) only [go_sem, Nat.reduceAdd, Nat.reduceSub, Nat.reduceMul, Nat.reduceLeDiff, Nat.reduceEqDiff, Nat.reduceBEq, reduceIte, reduceCtorEq, c_call_Get, q1, q2, q3, q4, q5, g0, g1, s0, s1, List.length_map, app_get0, app_set0]
      refine kd _ _ _ ?_
      simp [AV.mr, mrL, mrLL, mrLL_I, mrLL_E, mrLL_T, mrLL_B]
  | none =>
    by_cases hl : s.1.length - b.length = bc.length
    · have e2 : (((s.1.length - b.length : Nat) : Int) != (bc.length : Int)) = false := by simp [hl]
      cases f'
      all_goals
        simp only [owG, Bool.false_eq_true, if_true, if_false] at q4 q5 q6
        simp only [Option.isSome_none, true_and, hl, if_true]
        simp (maxSteps := 4000000) -implicitDefEqProofs (disch := (refine id_ok ?_; first | assumption | omega | (simp [go_sem] <;> omega) | with_unfolding_all rfl | decide)) only [go_sem, Nat.reduceAdd, Nat.reduceSub, Nat.reduceMul, Nat.reduceLeDiff, Nat.reduceEqDiff, Nat.reduceBEq, reduceIte, reduceCtorEq, c_call_Get, q1, q2, q3, q4, q5, q6, q7, e1, e2, g0, g1, s0, s1, List.length_map, app_get0, app_set0]
        refine kd _ _ _ ?_
        simp [AV.mr, mrL, mrLL, mrLL_I, mrLL_E, mrLL_T, mrLL_B]
    · have e2 : (((s.1.length - b.length : Nat) : Int) != (bc.length : Int)) = true := by simp; omega
      cases f'
      all_goals
        simp only [owG, Bool.false_eq_true, if_true, if_false] at q4 q5 q6
        simp only [Option.isSome_none, true_and, hl, if_false]
        simp (maxSteps := 4000000) -implicitDefEqProofs (disch := (refine id_ok ?_; first | assumption | omega | (simp [go_sem] <;> omega) | with_unfolding_all rfl | decide)) only [go_sem, Nat.reduceAdd, Nat.reduceSub, Nat.reduceMul, Nat.reduceLeDiff, Nat.reduceEqDiff, Nat.reduceBEq, reduceIte, reduceCtorEq, c_call_Get, q1, q2, q3, q4, q5, q6, q7, e1, e2, g0, g1, s0, s1, List.length_map, app_get0, app_set0]
        refine kd _ _ _ ?_
        simp [AV.mr, mrL, mrLL, mrLL_I, mrLL_E, mrLL_T, mrLL_B]
end Go.Proofs.YtlcflpanellbfaaGreatDoor.L
/- Calls: parsed; what is put is got; what is read is what was put. -/
set_option linter.all false
set_option maxRecDepth 100000
set_option maxHeartbeats 32000000
namespace Go.Proofs.YtlcflpanellbfaaGreatDoor.L
open Go.Proofs.YtlcflpanellbfaaGreatDoor.M Go.Proofs.YtlcflpanellbfaaGreatDoor.F Go.Proofs
def callB : ByteArray := ⟨#[99, 97, 108, 108]⟩
theorem wrap_run {s : ByteArray} {c : Int} {e : Option Int} {h : AH} (hc : c ≠ 0) : run T 58 [.str s, .int .i64 c, er e] h = some (fT s c (er e), h) := by
  have d1 : (c == 0) = false := by simpa using hc
  rw [run_code T_58]
  cases e with
  | none => simp -implicitDefEqProofs (disch := (refine id_ok ?_; first | assumption | omega | (simp [go_sem] <;> omega) | with_unfolding_all rfl | decide)) only [go_sem, Nat.reduceAdd, Nat.reduceSub, Nat.reduceMul, Nat.reduceLeDiff, Nat.reduceEqDiff, Nat.reduceBEq, reduceIte, reduceCtorEq, c_fault_Wrap, d1]
            rfl
  | some x => simp -implicitDefEqProofs (disch := (refine id_ok ?_; first | assumption | omega | (simp [go_sem] <;> omega) | with_unfolding_all rfl | decide)) only [go_sem, Nat.reduceAdd, Nat.reduceSub, Nat.reduceMul, Nat.reduceLeDiff, Nat.reduceEqDiff, Nat.reduceBEq, reduceIte, reduceCtorEq, c_fault_Wrap, d1]
              rfl
def parCal (b : List UInt8) : Option Cal := if (getCal (b, none)).2.1 = 0 ∧ tapE (getCal (b, none)).2.2 = none then some (getCal (b, none)).1 else none
def resCal (b : List UInt8) : AV := match parCal b with
  | some c => .tup [.agg (encC c), .nili]
  | none => .tup [.agg (encC (zeroC 0)), fT callB 10 (er (tapE (getCal (b, none)).2.2))]
theorem getCal_e (s : TS) : (getCal s).2.1 = 0 ∨ (getCal s).2.1 = 10 := by unfold getCal; split <;> simp
theorem cparse_run {b : List UInt8} {H : AH} (hb : b.length ≤ 1000000) : run U 19 [.sl .sh (b.map encB)] H = some (resCal b, H) := by
  have q1 := upU (tnew_run (b := b) (h := H ++ [.cells (owC (zeroC 0))]) (by omega))
  have e0 : H ++ [Bx.cells (owC (zeroC 0))] ++ [Tb (b, none)] = H ++ [Bx.cells (owC (zeroC 0)), Tb (b, none)] := by simp
  have e2 : (H ++ [Bx.cells (owC (zeroC 0))]).length = H.length + 1 := by simp
  rw [e0, e2] at q1
  have w1 : ∀ (l : AH) (X Y : Bx), (H ++ X :: Y :: l)[H.length + 1]? = some Y := fun l X Y => by rw [app_get]; rfl
  have w2 : ∀ (l : AH) (X Y Z : Bx), (H ++ X :: Y :: l).set (H.length + 1) Z = H ++ X :: Z :: l := fun l X Y Z => by rw [app_set]; rfl
  have q2 := cget_run (t := H.length + 1) (s := (b, none)) (H := H ++ [.cells (owC (zeroC 0)), Tb (b, none)]) (w1 _ _ _) hb
  have he := getCal_e (b, none)
  unfold resCal parCal
  generalize getCal (b, none) = g at *
  obtain ⟨c, e, s⟩ := g
  rw [w2] at q2
  have q3 := fun X : Bx => upU (tend_run (t := H.length + 1) (s := s) (h := H ++ [Bx.cells (owC (zeroC 0)), Tb s, X]) (w1 _ _ _))
  have q4 := fun X : Bx => upU (wrap_run (s := callB) (c := 10) (e := tapE s) (h := H ++ [Bx.cells (owC (zeroC 0)), Tb s, X]) (by omega))
  have g0 : ∀ (l : AH) (X : Bx), (H ++ X :: l)[H.length]? = some X := fun l X => by rw [app_get0]; rfl
  have g2 : ∀ (l : AH) (X Y Z : Bx), (H ++ X :: Y :: Z :: l)[H.length + 1 + 1]? = some Z := fun l X Y Z => by rw [show H.length + 1 + 1 = H.length + 2 from rfl, app_get]; rfl
  have s0 : ∀ (l : AH) (X Z : Bx), (H ++ X :: l).set H.length Z = H ++ Z :: l := fun l X Z => by rw [app_set0]; rfl
  have s2 : ∀ (l : AH) (X Y Z W : Bx), (H ++ X :: Y :: Z :: l).set (H.length + 1 + 1) W = H ++ X :: Y :: W :: l := fun l X Y Z W => by rw [show H.length + 1 + 1 = H.length + 2 from rfl, app_set]; rfl
  rw [run_code (show U 19 = some (.code c_call_Parse) from rfl)]
  simp only at he ⊢
  obtain ⟨a1, a2, a3, a4, a5, a6, a7, a8, a9, a10, a11⟩ := c
  simp only [owC, zeroC, List.map_nil, encC] at q1 q2 q3 q4 ⊢
  simp only [callB] at q4 ⊢
  rcases he with rfl | rfl
  · have e1 : ((0 : Int) != 0) = false := rfl
    generalize tapE s = te at *
    cases te with
    | none =>
      simp only [and_self, if_true]
      simp (maxSteps := 4000000) -implicitDefEqProofs (disch := (refine id_ok ?_; first | assumption | omega | (simp [go_sem] <;> omega) | with_unfolding_all rfl | decide)) only [go_sem, Nat.reduceAdd, Nat.reduceSub, Nat.reduceMul, Nat.reduceLeDiff, Nat.reduceEqDiff, Nat.reduceBEq, reduceIte, reduceCtorEq, c_call_Parse, q1, q2, q3, q4, e1, g0, g2, s0, s2, List.length_append, List.length_cons, List.length_nil, Nat.zero_add, List.append_assoc, List.cons_append, List.nil_append]
    | some v =>
      simp only [reduceCtorEq, and_false, if_false]
      simp (maxSteps := 4000000) -implicitDefEqProofs (disch := (refine id_ok ?_; first | assumption | omega | (simp [go_sem] <;> omega) | with_unfolding_all rfl | decide)) only [go_sem, Nat.reduceAdd, Nat.reduceSub, Nat.reduceMul, Nat.reduceLeDiff, Nat.reduceEqDiff, Nat.reduceBEq, reduceIte, reduceCtorEq, c_call_Parse, q1, q2, q3, q4, e1, g0, g2, s0, s2, List.length_append, List.length_cons, List.length_nil, Nat.zero_add, List.append_assoc, List.cons_append, List.nil_append]
      rfl
  · have e1 : ((10 : Int) != 0) = true := rfl
    simp only [show ¬ ((10 : Int) = 0) by omega, false_and, if_false]
    simp (maxSteps := 4000000) -implicitDefEqProofs (disch := (refine id_ok ?_; first | assumption | omega | (simp [go_sem] <;> omega) | with_unfolding_all rfl | decide)) only [go_sem, Nat.reduceAdd, Nat.reduceSub, Nat.reduceMul, Nat.reduceLeDiff, Nat.reduceEqDiff, Nat.reduceBEq, reduceIte, reduceCtorEq, c_call_Parse, q1, q2, q3, q4, e1, g0, g2, s0, s2, List.length_append, List.length_cons, List.length_nil, Nat.zero_add, List.append_assoc, List.cons_append, List.nil_append]
    generalize tapE s = te at *
    cases te with
    | none => first | rfl | (refine gc_drop1 ?_; rfl)
    | some v => first | rfl | (refine gc_drop1 ?_; rfl)
end Go.Proofs.YtlcflpanellbfaaGreatDoor.L
/- Calls: what is put is got. -/
set_option linter.all false
set_option maxRecDepth 100000
set_option maxHeartbeats 32000000
namespace Go.Proofs.YtlcflpanellbfaaGreatDoor.L
open Go.Proofs.YtlcflpanellbfaaGreatDoor.M Go.Proofs.YtlcflpanellbfaaGreatDoor.F Go.Proofs
theorem gtS_put {c o : Cal} {p : Int} {rest : List UInt8} (hp : 0 ≤ p ∧ p ≤ 10) (hr : rgP c p = true) : gtS (o, byP c p ++ rest, none) p = (plnS c o p, rest, none) := by
  rcases p_cases hp with rfl | rfl | rfl | rfl | rfl | rfl | rfl | rfl | rfl | rfl | rfl
  all_goals simp only [rgP, byP, gtS, plnS, Int.reduceEq, if_true, if_false, reduceIte] at hr ⊢
  · rw [gtP_put hr rest]
  · rw [bytLb, List.append_assoc, getL_put hr]
  · have h := okN_iff.1 hr
    rw [tapN_num (n := c.n.toNat) (by omega) (by omega)]
    simp only [Int.toNat_of_nonneg h.1]
  · have h := okN_iff.1 hr
    rw [tapN_num (n := c.m.toNat) (by omega) (by omega)]
    simp only [Int.toNat_of_nonneg h.1]
  · rw [bytLb, List.append_assoc, getL_put hr]
  · rw [getO_put hr rest]
  · have h := of_decide_eq_true hr
    rw [List.append_assoc, tapT_txt (by omega) (by omega)]
  · have h := rigC_len hr
    rw [List.append_assoc, tapT_txt (by omega) (by omega)]
  · rw [gtP_put hr rest]
  · unfold numF
    cases hw : c.write
    · simp only [Bool.false_eq_true, if_false]
      rw [tapN_num (n := 0) (by omega) (by omega)]; rfl
    · simp only [if_true]
      rw [tapN_num (n := 1) (by omega) (by omega)]; rfl
  · simp only [Bool.and_eq_true, decide_eq_true_eq] at hr
    rw [tapN_num (n := (c.n + 1048576).toNat) (by omega) (by omega)]
    simp only [Int.toNat_of_nonneg (show 0 ≤ c.n + 1048576 by omega), show c.n + 1048576 - 1048576 = c.n by omega]
theorem gfold_put {c : Cal} : ∀ (ps : List Int) (o : Cal) (rest : List UInt8), (∀ p ∈ ps, 0 ≤ p ∧ p ≤ 10) → (∀ p ∈ ps, rgP c p = true) → ps.foldl gtS (o, ps.flatMap (byP c) ++ rest, none) = (ps.foldl (plnS c) o, rest, none)
  | [], o, rest, _, _ => rfl
  | p :: ps, o, rest, h1, h2 => by
    rw [List.flatMap_cons, List.append_assoc, List.foldl_cons, List.foldl_cons, gtS_put (h1 p (by simp)) (h2 p (by simp))]
    exact gfold_put ps _ rest (fun q hq => h1 q (by simp [hq])) (fun q hq => h2 q (by simp [hq]))
theorem getCal_put {c : Cal} (h : rigCal c = true) (rest : List UInt8) : getCal (bytCal c ++ rest, none) = (c, 0, rest, none) := by
  obtain ⟨ho, hpl, hg⟩ := rigCal_all h
  have hb : bytCal c = num c.op.toNat ++ (pL c.op).flatMap (byP c) := by unfold bytCal; rw [if_pos h]
  have hn : tapN 20 (bytCal c ++ rest, none) = (c.op.toNat, (pL c.op).flatMap (byP c) ++ rest, none) := by
    rw [hb, List.append_assoc]; exact tapN_num (by omega) (by omega)
  have hrd : rdCal (bytCal c ++ rest, none) = (c, rest, none) := by
    unfold rdCal
    rw [hn]
    simp only [Int.toNat_of_nonneg ho.1]
    rw [gfold_put _ _ _ (pL_rng _).2 hg]
    unfold plC at hpl
    rw [hpl]
  unfold getCal
  rw [hrd]
  simp only [List.length_append]
  rw [if_pos ⟨rfl, by omega⟩]
end Go.Proofs.YtlcflpanellbfaaGreatDoor.L
