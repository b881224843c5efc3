/- Calls: their parts, what is plain of them, the same ones: the walks. -/
import Derived.Test.YtlcflpanellbfaaGreatDoorL57
set_option linter.all false
set_option maxRecDepth 100000
set_option maxHeartbeats 32000000
namespace Go.Proofs.YtlcflpanellbfaaGreatDoor.L
open Go.Proofs.YtlcflpanellbfaaGreatDoor.M Go.Proofs.YtlcflpanellbfaaGreatDoor.F Go.Proofs
structure Cal where
  op : Int
  at_ : List Int
  lab : List Ent
  ent : List Ent
  own : List (List UInt8)
  n : Int
  m : Int
  text : List UInt8
  cat : List UInt8
  seg : List Int
  write : Bool
deriving DecidableEq
def encC (c : Cal) : List AV := [.int .i64 c.op, .sl .sh (c.at_.map encI), .sl .sh (c.lab.map encE), .sl .sh (c.ent.map encE), .sl .sh (c.own.map encT), .int .i64 c.n, .int .i64 c.m, .sl .sh (c.text.map encB), .str ⟨c.cat.toArray⟩, .sl .sh (c.seg.map encI), .bool c.write]
def owC (c : Cal) : List AV := [.int .i64 c.op, ow (c.at_.map encI), ow (c.lab.map encE), ow (c.ent.map encE), ow (c.own.map encT), .int .i64 c.n, .int .i64 c.m, ow (c.text.map encB), .str ⟨c.cat.toArray⟩, ow (c.seg.map encI), .bool c.write]
def zeroC (op : Int) : Cal := ⟨op, [], [], [], [], 0, 0, [], [], [], false⟩
theorem shL_owC (c : Cal) : shL (owC c) = encC c := by
  simp only [owC, encC, shL, ow_sh, AV.sh]
structure okC (c : Cal) : Prop where
  at_ : c.at_.length ≤ 1000000
  lab : c.lab.length ≤ 1000000
  ent : c.ent.length ≤ 1000000
  own : c.own.length ≤ 1000000
  text : c.text.length ≤ 1000000000
  seg : c.seg.length ≤ 1000000
  labS : ∀ e ∈ c.lab, e.1.length ≤ 281474976710656
  entS : ∀ e ∈ c.ent, e.1.length ≤ 281474976710656
  ownS : shS c.own
  catS : c.cat.length ≤ 281474976710656
def pL (op : Int) : List Int :=
  if op = 2 then [0, 1, 2, 3] else if op = 3 then [0, 1, 2] else if op = 4 then [0, 1, 2, 5] else if op = 5 then [0, 1, 2, 4, 5, 3] else
  if op = 6 then [0, 1, 2] else if op = 7 then [0, 2, 3] else if op = 8 then [0, 2, 6] else if op = 9 then [0, 2] else if op = 10 then [0] else
  if op = 11 then [0] else if op = 12 then [0] else if op = 13 then [0, 10] else if op = 14 then [1] else if op = 15 then [0] else if op = 16 then [7] else
  if op = 17 then [0, 2, 8, 9] else if op = 18 then [0, 2] else if op = 19 then [0, 2, 3] else if op = 20 then [0, 2, 6] else []
theorem op_cases {op : Int} (h : 2 ≤ op ∧ op ≤ 20) : op = 2 ∨ op = 3 ∨ op = 4 ∨ op = 5 ∨ op = 6 ∨ op = 7 ∨ op = 8 ∨ op = 9 ∨ op = 10 ∨ op = 11 ∨ op = 12 ∨ op = 13 ∨ op = 14 ∨ op = 15 ∨ op = 16 ∨ op = 17 ∨ op = 18 ∨ op = 19 ∨ op = 20 := by omega
theorem eqF {a b : Int} (h : a ≠ b) : (a == b) = false := by simpa using h
theorem pL_none {op : Int} (h : ¬ (2 ≤ op ∧ op ≤ 20)) : pL op = [] := by
  unfold pL
  repeat rw [if_neg (by omega)]
theorem parts_run {op : Int} : run T 37 [.int .i64 op] [] = some (.sl .ex ((pL op).map encI), []) := by
  by_cases hop : 2 ≤ op ∧ op ≤ 20
  · rcases op_cases hop with rfl | rfl | rfl | rfl | rfl | rfl | rfl | rfl | rfl | rfl | rfl | rfl | rfl | rfl | rfl | rfl | rfl | rfl | rfl <;> exact run_of (n := 300) (by kernel_rfl)
  · rw [pL_none hop, run_code T_37]
    simp (maxSteps := 4000000) -implicitDefEqProofs (disch := (refine id_ok ?_; first | assumption | omega | (simp [go_sem] <;> omega) | with_unfolding_all rfl | decide)) only [go_sem, Nat.reduceAdd, Nat.reduceSub, Nat.reduceMul, Nat.reduceLeDiff, Nat.reduceEqDiff, Nat.reduceBEq, reduceIte, reduceCtorEq, c_call_parts, List.map_nil, eqF (show op ≠ 2 by omega), eqF (show op ≠ 3 by omega), eqF (show op ≠ 4 by omega), eqF (show op ≠ 5 by omega), eqF (show op ≠ 6 by omega), eqF (show op ≠ 7 by omega), eqF (show op ≠ 8 by omega), eqF (show op ≠ 9 by omega), eqF (show op ≠ 10 by omega), eqF (show op ≠ 11 by omega), eqF (show op ≠ 12 by omega), eqF (show op ≠ 13 by omega), eqF (show op ≠ 14 by omega), eqF (show op ≠ 15 by omega), eqF (show op ≠ 16 by omega), eqF (show op ≠ 17 by omega), eqF (show op ≠ 18 by omega), eqF (show op ≠ 19 by omega), eqF (show op ≠ 20 by omega)]
theorem pL_rng (op : Int) : (pL op).length ≤ 6 ∧ ∀ p ∈ pL op, 0 ≤ p ∧ p ≤ 10 := by
  by_cases hop : 2 ≤ op ∧ op ≤ 20
  · rcases op_cases hop with rfl | rfl | rfl | rfl | rfl | rfl | rfl | rfl | rfl | rfl | rfl | rfl | rfl | rfl | rfl | rfl | rfl | rfl | rfl <;> decide
  · rw [pL_none hop]; exact ⟨by simp, fun p hp => by cases hp⟩
theorem p_cases {p : Int} (h : 0 ≤ p ∧ p ≤ 10) : p = 0 ∨ p = 1 ∨ p = 2 ∨ p = 3 ∨ p = 4 ∨ p = 5 ∨ p = 6 ∨ p = 7 ∨ p = 8 ∨ p = 9 ∨ p = 10 := by omega
theorem known_run {op : Int} {h : AH} : run T 35 [.int .i64 op] h = some (.bool (decide (op ≥ 0) && decide (op ≤ 20)), h) := by
  rw [run_code T_35]
  cases h0 : decide (op ≥ 0) <;> simp -implicitDefEqProofs (disch := (refine id_ok ?_; first | assumption | omega | (simp [go_sem] <;> omega) | with_unfolding_all rfl | decide)) only [go_sem, Nat.reduceAdd, Nat.reduceSub, Nat.reduceMul, Nat.reduceLeDiff, Nat.reduceEqDiff, Nat.reduceBEq, reduceIte, reduceCtorEq, c_call_known, h0, Bool.true_and, Bool.false_and]
theorem cnum_run {n : Int} {h : AH} : run T 68 [.int .i64 n] h = some (.bool (decide (n ≥ 0) && decide (n ≤ 1048576)), h) := by
  rw [run_code T_68]
  cases h0 : decide (n ≥ 0) <;> simp -implicitDefEqProofs (disch := (refine id_ok ?_; first | assumption | omega | (simp [go_sem] <;> omega) | with_unfolding_all rfl | decide)) only [go_sem, Nat.reduceAdd, Nat.reduceSub, Nat.reduceMul, Nat.reduceLeDiff, Nat.reduceEqDiff, Nat.reduceBEq, reduceIte, reduceCtorEq, c_call_number, h0, Bool.true_and, Bool.false_and]
theorem cloE_run {l : List Ent} {h : AH} (hn : l.length ≤ 1000000) : run T 47 [.sl .sh (l.map encE)] h = some (ow (l.map encE), h) := by
  rw [run_prim T_47]
  show (if szOK 2 (l.map encE) = true ∧ _ then _ else _) = _
  rw [if_pos ⟨szOK_E, by rw [List.length_map]; omega, by rw [List.length_map]; omega⟩]
theorem cloS_run {l : List (List UInt8)} {h : AH} (hn : l.length ≤ 1000000) : run T 48 [.sl .sh (l.map encT)] h = some (ow (l.map encT), h) := by
  rw [run_prim T_48]
  show (if szOK 1 (l.map encT) = true ∧ _ then _ else _) = _
  rw [if_pos ⟨szOK_T, by rw [List.length_map]; omega, by rw [List.length_map]; omega⟩]
def plnS (c o : Cal) (p : Int) : Cal :=
  if p = 0 then { o with at_ := c.at_ } else if p = 1 then { o with lab := c.lab } else if p = 2 then { o with n := c.n } else if p = 3 then { o with m := c.m } else
  if p = 4 then { o with ent := c.ent } else if p = 5 then { o with own := c.own } else if p = 6 then { o with text := c.text } else if p = 7 then { o with cat := c.cat } else
  if p = 8 then { o with seg := c.seg } else if p = 9 then { o with write := c.write } else if p = 10 then { o with n := c.n } else o
def HpC (c o : Cal) (x : Bx) : AH := [.cells (encC c), x, .cells (owC o)]
theorem plain_loop {c : Cal} {ps : List Int} {x : Bx} (hc : okC c) (hn : ps.length ≤ 1000) (hr : ∀ p ∈ ps, 0 ≤ p ∧ p ≤ 10) : ∀ (d i : Nat) (o : Cal), d + i = ps.length →
    den T (.loop l_call_Plain_0) (s_call_Plain_0 (.box 0 0) (.box 1 0) (.box 2 0) (.sl .ex (ps.map encI)) (.int .i64 ps.length) (.int .i64 i)) (HpC c o x) = some (.exit 0, x_call_Plain_0 (.box 1 0) (.box 2 0), HpC c ((ps.drop i).foldl (plnS c) o) x) := by
  intro d
  induction d with
  | zero =>
    intro i o hd
    have hd' : decide ((i : Int) < ps.length) = false := decide_eq_false (by omega)
    rw [List.drop_eq_nil_of_le (by omega), List.foldl_nil]
    rw [lp_round]
    simp -implicitDefEqProofs (disch := (refine id_ok ?_; first | assumption | omega | (simp [go_sem] <;> omega) | with_unfolding_all rfl | decide)) only [go_sem, Nat.reduceAdd, Nat.reduceSub, Nat.reduceMul, Nat.reduceLeDiff, Nat.reduceEqDiff, Nat.reduceBEq, reduceIte, reduceCtorEq, hd']
  | succ d ih =>
    intro i o hd
    have hib : i < ps.length := by omega
    have hd' : decide ((i : Int) < ps.length) = true := decide_eq_true (by omega)
    have hge : (ps.map encI)[(i : Int).toNat]? = some (encI ps[i]) := by simp [hib]
    have hdr : ps.drop i = ps[i] :: ps.drop (i + 1) := List.drop_eq_getElem_cons hib
    have e7 := incP (n := i) (by omega)
    have hp := hr ps[i] (by simp)
    rw [hdr, List.foldl_cons]
    have ih' := ih (i + 1) (plnS c o ps[i]) (by omega)
    generalize ps[i] = p at *
    simp only [encI] at hge
    have q1 := cloI_run (l := c.at_) (h := []) (by have := hc.at_; omega)
    have q2 := cloE_run (l := c.lab) (h := []) hc.lab
    have q3 := cloE_run (l := c.ent) (h := []) hc.ent
    have q4 := cloS_run (l := c.own) (h := []) hc.own
    have q5 := clone_run (l := c.text) (h := []) (by have := hc.text; omega)
    have q6 := cloI_run (l := c.seg) (h := []) (by have := hc.seg; omega)
    obtain ⟨o1, o2, o3, o4, o5, o6, o7, o8, o9, o10, o11⟩ := o
    obtain ⟨c1, c2, c3, c4, c5, c6, c7, c8, c9, c10, c11⟩ := c
    clear hc ih hr hdr
    simp only [HpC, encC, owC] at ih' q1 q2 q3 q4 q5 q6 ⊢
    rcases p_cases hp with rfl | rfl | rfl | rfl | rfl | rfl | rfl | rfl | rfl | rfl | rfl
    all_goals
      simp only [plnS, Int.reduceEq, if_true, if_false, reduceIte] at ih'
      rw [lp_round]
      simp (maxSteps := 2000000) -implicitDefEqProofs (disch := (refine id_ok ?_; first | assumption | omega | (simp [go_sem] <;> omega) | with_unfolding_all rfl | decide)) only [go_sem, Nat.reduceAdd, Nat.reduceSub, Nat.reduceMul, Nat.reduceLeDiff, Nat.reduceEqDiff, Nat.reduceBEq, reduceIte, reduceCtorEq, hd', hge, q1, q2, q3, q4, q5, q6, e7, Int.reduceBEq]
      exact ih'
def plC (c : Cal) : Cal := (pL c.op).foldl (plnS c) (zeroC c.op)
theorem plain_run {c : Cal} (hc : okC c) : run T 14 [.agg (encC c)] [] = some (.agg (encC (plC c)), []) := by
  have h1 := parts_run (op := c.op)
  have h2 := plain_loop (c := c) (ps := pL c.op) (x := .cells (owC (zeroC 0))) hc (by have := (pL_rng c.op).1; omega) (pL_rng c.op).2 (pL c.op).length 0 (zeroC c.op) (by omega)
  simp only [show ((0 : Nat) : Int) = 0 from rfl, List.drop_zero] at h2
  rw [run_code T_14]
  unfold plC
  generalize hq : (pL c.op).foldl (plnS c) (zeroC c.op) = q at *
  clear hq hc
  obtain ⟨c1, c2, c3, c4, c5, c6, c7, c8, c9, c10, c11⟩ := c
  simp only [HpC, encC, owC, zeroC, List.map_nil] at h1 h2 ⊢
  simp (maxSteps := 4000000) -implicitDefEqProofs (disch := (refine id_ok ?_; first | assumption | omega | (simp [go_sem] <;> omega) | with_unfolding_all rfl | decide)) only [go_sem, Nat.reduceAdd, Nat.reduceSub, Nat.reduceMul, Nat.reduceLeDiff, Nat.reduceEqDiff, Nat.reduceBEq, reduceIte, reduceCtorEq, c_call_Plain, h1, h2, List.length_map]
theorem same_run {a b : Cal} (ha : okC a) : run T 16 [.agg (encC a), .agg (encC b)] [] = some (.bool (decide (a = b)), []) := by
  have q1 := eqI__run (a := a.at_) (b := b.at_) (h := []) (by have := ha.at_; omega)
  have q2 := lsame_run (a := a.lab) (b := b.lab) (h := []) (by have := ha.lab; omega)
  have q3 := lsame_run (a := a.ent) (b := b.ent) (h := []) (by have := ha.ent; omega)
  have q4 := eqS_run (a := a.own) (b := b.own) (h := []) (by have := ha.own; omega)
  have q5 := eqI__run (a := a.seg) (b := b.seg) (h := []) (by have := ha.seg; omega)
  have q6 := beq_run (a := a.text) (b := b.text) (h := [])
  have q7 := lb_dec a.op b.op
  have q8 := lb_dec a.n b.n
  have q9 := lb_dec a.m b.m
  have q10 := lbU a.cat b.cat
  have q11 := lb_dec a.write b.write
  have he : decide (a = b) = (decide (a.at_ = b.at_) && (decide (a.lab = b.lab) && (decide (a.ent = b.ent) && (decide (a.own = b.own) && (decide (a.seg = b.seg) && (decide (a.op = b.op) && (decide (a.n = b.n) && (decide (a.m = b.m) && (decide (a.text = b.text) && (decide (a.cat = b.cat) && decide (a.write = b.write))))))))))) := by
    rw [← Bool.decide_and, ← Bool.decide_and, ← Bool.decide_and, ← Bool.decide_and, ← Bool.decide_and, ← Bool.decide_and, ← Bool.decide_and, ← Bool.decide_and, ← Bool.decide_and, ← Bool.decide_and]
    refine decide_eq_decide.2 ?_
    obtain ⟨a1, a2, a3, a4, a5, a6, a7, a8, a9, a10, a11⟩ := a
    obtain ⟨b1, b2, b3, b4, b5, b6, b7, b8, b9, b10, b11⟩ := b
    simp only [Cal.mk.injEq]
    constructor
    · rintro ⟨h1, h2, h3, h4, h5, h6, h7, h8, h9, h10, h11⟩; exact ⟨h2, h3, h4, h5, h10, h1, h6, h7, h8, h9, h11⟩
    · rintro ⟨h2, h3, h4, h5, h10, h1, h6, h7, h8, h9, h11⟩; exact ⟨h1, h2, h3, h4, h5, h6, h7, h8, h9, h10, h11⟩
  rw [he, run_code T_16]
  clear he ha
  obtain ⟨a1, a2, a3, a4, a5, a6, a7, a8, a9, a10, a11⟩ := a
  obtain ⟨b1, b2, b3, b4, b5, b6, b7, b8, b9, b10, b11⟩ := b
  simp only [encC] at q1 q2 q3 q4 q5 q6 q7 q8 q9 q10 q11 ⊢
  generalize decide (a2 = b2) = d2 at *
  generalize decide (a3 = b3) = d3 at *
  generalize decide (a4 = b4) = d4 at *
  generalize decide (a5 = b5) = d5 at *
  generalize decide (a10 = b10) = d10 at *
  generalize decide (a1 = b1) = d1 at *
  generalize decide (a6 = b6) = d6 at *
  generalize decide (a7 = b7) = d7 at *
  generalize decide (a8 = b8) = d8 at *
  generalize decide (a9 = b9) = d9 at *
  generalize decide (a11 = b11) = d11 at *
  cases d2
  · simp (maxSteps := 4000000) -implicitDefEqProofs (disch := (refine id_ok ?_; first | assumption | omega | (simp [go_sem] <;> omega) | with_unfolding_all rfl | decide)) only [go_sem, Nat.reduceAdd, Nat.reduceSub, Nat.reduceMul, Nat.reduceLeDiff, Nat.reduceEqDiff, Nat.reduceBEq, reduceIte, reduceCtorEq, c_call_Same, q1, q2, q3, q4, q5, q6, q7, q8, q9, q10, q11, Bool.false_and, Bool.true_and]
  cases d3
  · simp (maxSteps := 4000000) -implicitDefEqProofs (disch := (refine id_ok ?_; first | assumption | omega | (simp [go_sem] <;> omega) | with_unfolding_all rfl | decide)) only [go_sem, Nat.reduceAdd, Nat.reduceSub, Nat.reduceMul, Nat.reduceLeDiff, Nat.reduceEqDiff, Nat.reduceBEq, reduceIte, reduceCtorEq, c_call_Same, q1, q2, q3, q4, q5, q6, q7, q8, q9, q10, q11, Bool.false_and, Bool.true_and]
  cases d4
  · simp (maxSteps := 4000000) -implicitDefEqProofs (disch := (refine id_ok ?_; first | assumption | omega | (simp [go_sem] <;> omega) | with_unfolding_all rfl | decide)) only [go_sem, Nat.reduceAdd, Nat.reduceSub, Nat.reduceMul, Nat.reduceLeDiff, Nat.reduceEqDiff, Nat.reduceBEq, reduceIte, reduceCtorEq, c_call_Same, q1, q2, q3, q4, q5, q6, q7, q8, q9, q10, q11, Bool.false_and, Bool.true_and]
  cases d5
  · simp (maxSteps := 4000000) -implicitDefEqProofs (disch := (refine id_ok ?_; first | assumption | omega | (simp [go_sem] <;> omega) | with_unfolding_all rfl | decide)) only [go_sem, Nat.reduceAdd, Nat.reduceSub, Nat.reduceMul, Nat.reduceLeDiff, Nat.reduceEqDiff, Nat.reduceBEq, reduceIte, reduceCtorEq, c_call_Same, q1, q2, q3, q4, q5, q6, q7, q8, q9, q10, q11, Bool.false_and, Bool.true_and]
  cases d10
  · simp (maxSteps := 4000000) -implicitDefEqProofs (disch := (refine id_ok ?_; first | assumption | omega | (simp [go_sem] <;> omega) | with_unfolding_all rfl | decide)) only [go_sem, Nat.reduceAdd, Nat.reduceSub, Nat.reduceMul, Nat.reduceLeDiff, Nat.reduceEqDiff, Nat.reduceBEq, reduceIte, reduceCtorEq, c_call_Same, q1, q2, q3, q4, q5, q6, q7, q8, q9, q10, q11, Bool.false_and, Bool.true_and]
  cases d1
  · simp (maxSteps := 4000000) -implicitDefEqProofs (disch := (refine id_ok ?_; first | assumption | omega | (simp [go_sem] <;> omega) | with_unfolding_all rfl | decide)) only [go_sem, Nat.reduceAdd, Nat.reduceSub, Nat.reduceMul, Nat.reduceLeDiff, Nat.reduceEqDiff, Nat.reduceBEq, reduceIte, reduceCtorEq, c_call_Same, q1, q2, q3, q4, q5, q6, q7, q8, q9, q10, q11, Bool.false_and, Bool.true_and]
  cases d6
  · simp (maxSteps := 4000000) -implicitDefEqProofs (disch := (refine id_ok ?_; first | assumption | omega | (simp [go_sem] <;> omega) | with_unfolding_all rfl | decide)) only [go_sem, Nat.reduceAdd, Nat.reduceSub, Nat.reduceMul, Nat.reduceLeDiff, Nat.reduceEqDiff, Nat.reduceBEq, reduceIte, reduceCtorEq, c_call_Same, q1, q2, q3, q4, q5, q6, q7, q8, q9, q10, q11, Bool.false_and, Bool.true_and]
  cases d7
  · simp (maxSteps := 4000000) -implicitDefEqProofs (disch := (refine id_ok ?_; first | assumption | omega | (simp [go_sem] <;> omega) | with_unfolding_all rfl | decide)) only [go_sem, Nat.reduceAdd, Nat.reduceSub, Nat.reduceMul, Nat.reduceLeDiff, Nat.reduceEqDiff, Nat.reduceBEq, reduceIte, reduceCtorEq, c_call_Same, q1, q2, q3, q4, q5, q6, q7, q8, q9, q10, q11, Bool.false_and, Bool.true_and]
  cases d8
  · simp (maxSteps := 4000000) -implicitDefEqProofs (disch := (refine id_ok ?_; first | assumption | omega | (simp [go_sem] <;> omega) | with_unfolding_all rfl | decide)) only [go_sem, Nat.reduceAdd, Nat.reduceSub, Nat.reduceMul, Nat.reduceLeDiff, Nat.reduceEqDiff, Nat.reduceBEq, reduceIte, reduceCtorEq, c_call_Same, q1, q2, q3, q4, q5, q6, q7, q8, q9, q10, q11, Bool.false_and, Bool.true_and]
  cases d9
  · simp (maxSteps := 4000000) -implicitDefEqProofs (disch := (refine id_ok ?_; first | assumption | omega | (simp [go_sem] <;> omega) | with_unfolding_all rfl | decide)) only [go_sem, Nat.reduceAdd, Nat.reduceSub, Nat.reduceMul, Nat.reduceLeDiff, Nat.reduceEqDiff, Nat.reduceBEq, reduceIte, reduceCtorEq, c_call_Same, q1, q2, q3, q4, q5, q6, q7, q8, q9, q10, q11, Bool.false_and, Bool.true_and]
  · simp (maxSteps := 4000000) -implicitDefEqProofs (disch := (refine id_ok ?_; first | assumption | omega | (simp [go_sem] <;> omega) | with_unfolding_all rfl | decide)) only [go_sem, Nat.reduceAdd, Nat.reduceSub, Nat.reduceMul, Nat.reduceLeDiff, Nat.reduceEqDiff, Nat.reduceBEq, reduceIte, reduceCtorEq, c_call_Same, q1, q2, q3, q4, q5, q6, q7, q8, q9, q10, q11, Bool.false_and, Bool.true_and]
end Go.Proofs.YtlcflpanellbfaaGreatDoor.L
