/- Replies: read from bytes. -/
import Derived.Test.YtjeigcnaalleiaaGreatDoorL28
set_option linter.all false
set_option maxRecDepth 100000
namespace Go.Proofs.YtjeigcnaalleiaaGreatDoor.L
open Go.Proofs.YtjeigcnaalleiaaGreatDoor.M Go.Proofs.YtjeigcnaalleiaaGreatDoor.F Go.Proofs

/-- Kids read. -/
def getK : Nat → TS → List Kd × TS
  | 0, s => ([], s)
  | k + 1, s => ((((tapN 1048576 s).1 : Int), ((tapN 5 (tapN 1048576 s).2).1 : Int), ((tapN 1048576 (tapN 5 (tapN 1048576 s).2).2).1 : Int)) :: (getK k (tapN 1048576 (tapN 5 (tapN 1048576 s).2).2).2).1, (getK k (tapN 1048576 (tapN 5 (tapN 1048576 s).2).2).2).2)
theorem getK_len : ∀ (k : Nat) (s : TS), (getK k s).2.1.length ≤ s.1.length ∧ (getK k s).1.length = k
  | 0, s => ⟨Nat.le_refl _, rfl⟩
  | k + 1, s => by
    have := getK_len k (tapN 1048576 (tapN 5 (tapN 1048576 s).2).2).2
    have h1 := tapN_len 1048576 s
    have h2 := tapN_len 5 (tapN 1048576 s).2
    have h3 := tapN_len 1048576 (tapN 5 (tapN 1048576 s).2).2
    simp only [getK, List.length_cons]
    omega
theorem app_get {h l : AH} {k : Nat} : (h ++ l)[h.length + k]? = l[k]? := by rw [List.getElem?_append_right (by omega)]; congr 1; omega
theorem app_get0 {h l : AH} : (h ++ l)[h.length]? = l[0]? := by rw [List.getElem?_append_right (by omega)]; congr 1; omega
theorem app_set {h l : AH} {k : Nat} {x : Bx} : (h ++ l).set (h.length + k) x = h ++ l.set k x := by rw [List.set_append_right _ _ (by omega)]; congr 2; omega
theorem app_set0 {h l : AH} {x : Bx} : (h ++ l).set h.length x = h ++ l.set 0 x := by rw [List.set_append_right _ _ (by omega)]; congr 2; omega
theorem tnum_at {h : AH} {Z : Bx} {js : AH} {s : TS} {g : Nat} (hs : s.1.length ≤ 9223372036854775806) : run T 39 [.box (h.length + 1) 0, .int .i64 g] (h ++ Z :: Tb s :: js) = some (.int .i64 (tapN g s).1, h ++ Z :: Tb (tapN g s).2 :: js) := by
  have := tnum_run (t := h.length + 1) (g := g) (s := s) (h := h ++ Z :: Tb s :: js) (by rw [app_get]; rfl) hs
  rw [app_set] at this; exact this
theorem ttext_at {h : AH} {Z : Bx} {js : AH} {s : TS} {g : Nat} (hs : s.1.length ≤ 9223372036854775806) : run T 40 [.box (h.length + 1) 0, .int .i64 g] (h ++ Z :: Tb s :: js) = some (.str ⟨(tapT g s).1.toArray⟩, h ++ Z :: Tb (tapT g s).2 :: js) := by
  have := ttext_run (t := h.length + 1) (g := g) (s := s) (h := h ++ Z :: Tb s :: js) (by rw [app_get]; rfl) hs
  rw [app_set] at this; exact this
theorem tend_at {h : AH} {Z : Bx} {js : AH} {s : TS} : run T 68 [.box (h.length + 1) 0] (h ++ Z :: Tb s :: js) = some (er (tapE s), h ++ Z :: Tb s :: js) :=
  tend_run (by rw [app_get]; rfl)
theorem lget_at {h : AH} {Z : Bx} {js : AH} {s : TS} (hs : s.1.length ≤ 281474976710656) : run T 67 [.box (h.length + 1) 0] (h ++ Z :: Tb s :: js) = some (.tup [ow ((getL s).1.map encE), .int .i64 (getL s).2.1], h ++ Z :: Tb (getL s).2.2 :: js) := by
  have := lget_run (t := h.length + 1) (s := s) (h := h ++ Z :: Tb s :: js) (by rw [app_get]; rfl) hs
  rw [app_set] at this; exact this
/-- A reply while it is read. -/
def Rb (e n : Int) (tx ct : List UInt8) (lb : List Ent) (ks : List Kd) : Bx := .cells [.int .i64 e, .int .i64 n, .sl .sh (tx.map encB), .str ⟨ct.toArray⟩, ow (lb.map encE), ow (ks.map encK)]
set_option maxHeartbeats 4000000 in
theorem getK_loop {h : AH} {Z : Bx} {v7 : AV} {e m : Int} {tx ct : List UInt8} {lb : List Ent} {n : Nat} (hn : n ≤ 1000) : ∀ (d i : Nat) (s : TS) (a : List Kd), d + i = n → s.1.length ≤ 9223372036854775806 → a.length ≤ i →
    den T (.loop l_reply_Parse_0) (s_reply_Parse_0 (.box h.length 0) (.box (h.length + 1) 0) (.box (h.length + 2) 0) v7 (.int .i64 n) (.int .i64 i)) (h ++ [Z, Tb s, Rb e m tx ct lb a]) = some (.exit 0, x_reply_Parse_0 (.box h.length 0) (.box (h.length + 1) 0) (.box (h.length + 2) 0) v7, h ++ [Z, Tb (getK d s).2, Rb e m tx ct lb (a ++ (getK d s).1)]) := by
  intro d
  induction d with
  | zero =>
    intro i s a hd hs ha
    have hd' : decide ((i : Int) < n) = false := decide_eq_false (by omega)
    simp only [getK, List.append_nil]
    rw [lp_round]
    simp -implicitDefEqProofs (disch := (refine id_ok ?_; first | assumption | omega | (simp only [go_sem, List.size_toArray, List.length_map, List.length_append, List.length_take, List.length_drop, List.length_cons, List.length_nil, mrLL_app, keyD_i, keyD_s, keyD_b, Nat.reduceAdd, Nat.reduceEqDiff, Nat.reduceLeDiff] <;> omega) | with_unfolding_all rfl | decide)) only [go_sem, Nat.reduceAdd, Nat.reduceSub, Nat.reduceMul, Nat.reduceLeDiff, Nat.reduceEqDiff, Nat.reduceBEq, reduceIte, reduceCtorEq, hd']
  | succ d ih =>
    intro i s a hd hs ha
    have hd' : decide ((i : Int) < n) = true := decide_eq_true (by omega)
    have l1 := tapN_len 1048576 s
    have l2 := tapN_len 5 (tapN 1048576 s).2
    have l3 := tapN_len 1048576 (tapN 5 (tapN 1048576 s).2).2
    have t1 := fun X => tnum_at (h := h) (Z := Z) (js := [X]) (s := s) (g := 1048576) hs
    have t2 := fun X => tnum_at (h := h) (Z := Z) (js := [X]) (s := (tapN 1048576 s).2) (g := 5) (by omega)
    have t3 := fun X => tnum_at (h := h) (Z := Z) (js := [X]) (s := (tapN 5 (tapN 1048576 s).2).2) (g := 1048576) (by omega)
    simp only [show ((1048576 : Nat) : Int) = 1048576 from rfl, show ((5 : Nat) : Int) = 5 from rfl] at t1 t2 t3
    have e7 : IntKind.i64.wrap ((i : Int) + 1) = ((i + 1 : Nat) : Int) := by rw [w64 (by omega) (by omega)]; rfl
    have ih' := ih (i + 1) (tapN 1048576 (tapN 5 (tapN 1048576 s).2).2).2 (a ++ [(((tapN 1048576 s).1 : Int), ((tapN 5 (tapN 1048576 s).2).1 : Int), ((tapN 1048576 (tapN 5 (tapN 1048576 s).2).2).1 : Int))]) (by omega) (by omega) (by simp; omega)
    simp only [getK]
    generalize tapN 1048576 s = x at *
    generalize tapN 5 x.2 = y at *
    generalize tapN 1048576 y.2 = z at *
    simp only [Rb, List.map_append, List.map_cons, List.map_nil, encK, List.append_assoc, List.singleton_append] at ih' ⊢
    rw [lp_round]
    simp (maxSteps := 2000000) -implicitDefEqProofs (disch := (refine id_ok ?_; first | assumption | omega | (simp only [go_sem, List.size_toArray, List.length_map, List.length_append, List.length_take, List.length_drop, List.length_cons, List.length_nil, mrLL_app, keyD_i, keyD_s, keyD_b, Nat.reduceAdd, Nat.reduceEqDiff, Nat.reduceLeDiff] <;> omega) | with_unfolding_all rfl | decide)) only [go_sem, Nat.reduceAdd, Nat.reduceSub, Nat.reduceMul, Nat.reduceLeDiff, Nat.reduceEqDiff, Nat.reduceBEq, reduceIte, reduceCtorEq, hd', app_get, app_set, t1, t2, t3, e7]
    exact ih'
def zeroR : Rep := ⟨0, 0, [], [], [], []⟩
/-- What Parse reads ahead of the kids; the tape behind; whether there was no fault. -/
structure Rd1 where
  e : Nat
  n : Nat
  tx : List UInt8
  ct : List UInt8
  lb : List Ent × Int
  k : Nat
  ks : List Kd
  s : TS
def rdR (b : List UInt8) : Rd1 :=
  let e := tapN 99 (b, none)
  let n := tapN 1099511627776 e.2
  let tx := tapT 256 n.2
  let ct := tapT 80 tx.2
  let lb := getL ct.2
  let k := tapN 16 lb.2.2
  let ks := getK k.1 k.2
  ⟨e.1, n.1, tx.1, ct.1, (lb.1, lb.2.1), k.1, ks.1, ks.2⟩
def Rd1.r (x : Rd1) : Rep := ⟨x.e, x.n, x.tx, x.ct, x.lb.1, x.ks⟩
def parR (b : List UInt8) : Option Rep := if tapE (rdR b).s = none ∧ (rdR b).lb.2 = 0 ∧ rigR (rdR b).r = true then some (rdR b).r else none
def repl : ByteArray := ⟨#[114, 101, 112, 108, 121]⟩
/-- The error of a reading that failed. -/
def rerr (b : List UInt8) : AV := fT repl 10 (er (tapE (rdR b).s))
theorem wrap_run {s : ByteArray} {c : Int} {e : Option Int} {h : AH} (hc : c ≠ 0) : run T 69 [.str s, .int .i64 c, er e] h = some (fT s c (er e), h) := by
  have d1 : (c == 0) = false := by simpa using hc
  rw [run_code T_69]
  cases e with
  | none => simp -implicitDefEqProofs (disch := (refine id_ok ?_; first | assumption | omega | (simp only [go_sem, List.size_toArray, List.length_map, List.length_append, List.length_take, List.length_drop, List.length_cons, List.length_nil, mrLL_app, keyD_i, keyD_s, keyD_b, Nat.reduceAdd, Nat.reduceEqDiff, Nat.reduceLeDiff] <;> omega) | with_unfolding_all rfl | decide)) only [go_sem, Nat.reduceAdd, Nat.reduceSub, Nat.reduceMul, Nat.reduceLeDiff, Nat.reduceEqDiff, Nat.reduceBEq, reduceIte, reduceCtorEq, c_fault_Wrap, d1]
            rfl
  | some x => simp -implicitDefEqProofs (disch := (refine id_ok ?_; first | assumption | omega | (simp only [go_sem, List.size_toArray, List.length_map, List.length_append, List.length_take, List.length_drop, List.length_cons, List.length_nil, mrLL_app, keyD_i, keyD_s, keyD_b, Nat.reduceAdd, Nat.reduceEqDiff, Nat.reduceLeDiff] <;> omega) | with_unfolding_all rfl | decide)) only [go_sem, Nat.reduceAdd, Nat.reduceSub, Nat.reduceMul, Nat.reduceLeDiff, Nat.reduceEqDiff, Nat.reduceBEq, reduceIte, reduceCtorEq, c_fault_Wrap, d1]
              rfl
theorem getL_len (s : TS) : (getL s).2.2.1.length ≤ s.1.length ∧ ∀ e ∈ (getL s).1, e.1.length ≤ s.1.length := by
  have l1 := tapN_len 8 s
  have l2 := getEs_len (tapN 8 s).1 (tapN 8 s).2
  have l3 := getEs_str (tapN 8 s).1 (tapN 8 s).2
  unfold getL
  dsimp only
  split
  · exact ⟨by dsimp only; omega, fun e he => by have := l3 e he; omega⟩
  · exact ⟨by dsimp only; omega, fun e he => by cases he⟩
theorem tapT_str (g : Nat) (s : TS) : (tapT g s).1.length ≤ s.1.length := by
  have hn := tapN_len g s
  unfold tapT
  split
  · simp
  · split
    · simp
    · split
      · simp
      · simp; omega
def repRes (b : List UInt8) : AV := match parR b with | some r => .tup [.agg (encR r), .nili] | none => .tup [.agg (encR zeroR), rerr b]
set_option maxHeartbeats 8000000 in
theorem parR_run {b : List UInt8} {h : AH} (hb : b.length < 140737488355328) : run T 31 [.sl .sh (b.map encB)] h = some (repRes b, h) := by
  have hl1 : ∀ x : Bx, (h ++ [x]).length = h.length + 1 := fun x => by simp
  have hl2 : ∀ x y : Bx, (h ++ [x, y]).length = h.length + 2 := fun x y => by simp
  have t0 := fun Z => tnew_run (b := b) (h := h ++ [Z]) hb
  simp only [hl1, List.append_assoc, List.cons_append, List.nil_append] at t0
  have k1 := tapN_len 99 (b, none)
  have t1 := fun Z js => tnum_at (h := h) (Z := Z) (js := js) (s := (b, none)) (g := 99) (by simp only; omega)
  have hrd : rdR b = rdR b := rfl
  conv at hrd => rhs; unfold rdR
  dsimp only at k1 hrd
  generalize tapN 99 (b, none) = e at *
  have k2 := tapN_len 1099511627776 e.2
  have t2 := fun Z js => tnum_at (h := h) (Z := Z) (js := js) (s := e.2) (g := 1099511627776) (by omega)
  generalize tapN 1099511627776 e.2 = n at *
  have k3 := tapT_len 256 n.2
  have t3 := fun Z js => ttext_at (h := h) (Z := Z) (js := js) (s := n.2) (g := 256) (by omega)
  generalize tapT 256 n.2 = tx at *
  have k4 := tapT_len 80 tx.2
  have k4' := tapT_str 80 tx.2
  have t4 := fun Z js => ttext_at (h := h) (Z := Z) (js := js) (s := tx.2) (g := 80) (by omega)
  generalize tapT 80 tx.2 = ct at *
  have k5 := getL_len ct.2
  have t5 := fun Z js => lget_at (h := h) (Z := Z) (js := js) (s := ct.2) (by omega)
  generalize getL ct.2 = lb at *
  have k6 := tapN_len 16 lb.2.2
  have k6' := tapN_le 16 lb.2.2
  have t6 := fun Z js => tnum_at (h := h) (Z := Z) (js := js) (s := lb.2.2) (g := 16) (by omega)
  generalize tapN 16 lb.2.2 = k at *
  have k7 := getK_len k.1 k.2
  have t7 := fun Z v7 e m tx ct lb => getK_loop (h := h) (Z := Z) (v7 := v7) (e := e) (m := m) (tx := tx) (ct := ct) (lb := lb) (n := k.1) (by omega) k.1 0 k.2 [] (by omega) (by omega) (by simp)
  simp only [show ((0 : Nat) : Int) = 0 from rfl, List.nil_append] at t7
  generalize getK k.1 k.2 = ks at *
  have t8 := fun Z js => tend_at (h := h) (Z := Z) (js := js) (s := ks.2)
  obtain ⟨R, hR⟩ : ∃ R, Rep.mk e.1 n.1 tx.1 ct.1 lb.1 ks.1 = R := ⟨_, rfl⟩
  have hno : ∀ c, tapE ks.2 = c → (c ≠ none ∨ lb.2.1 ≠ 0 ∨ rigR R = false) → repRes b = .tup [.agg (encR zeroR), fT repl 10 (er c)] := by
    intro c hc hn
    unfold repRes rerr parR
    rw [hrd]
    simp only [Rd1.r, hR, hc]
    rw [if_neg (by rintro ⟨q1, q2, q3⟩; rcases hn with hn | hn | hn; exact hn q1; exact hn q2; rw [q3] at hn; cases hn)]
  have hyes : tapE ks.2 = none → lb.2.1 = 0 → rigR R = true → repRes b = .tup [.agg (encR R), .nili] := by
    intro q1 q2 q3
    unfold repRes parR
    rw [hrd]
    simp only [Rd1.r, hR]
    rw [if_pos ⟨q1, q2, q3⟩]
  have t9 := rigR_run (r := R) (by rw [← hR]; simp only; omega) (by rw [← hR]; simp only; omega) (by rw [← hR]; intro x hx; have := k5.2 x hx; omega)
  simp only [show ((99 : Nat) : Int) = 99 from rfl, show ((1099511627776 : Nat) : Int) = 1099511627776 from rfl, show ((256 : Nat) : Int) = 256 from rfl, show ((80 : Nat) : Int) = 80 from rfl, show ((16 : Nat) : Int) = 16 from rfl] at t1 t2 t3 t4 t6
  rw [run_code T_31]
  simp only [Rb, List.map_nil] at t7
  have hRe : encR R = [.int .i64 (e.1 : Int), .int .i64 (n.1 : Int), .sl .sh (tx.1.map encB), .str ⟨ct.1.toArray⟩, .sl .sh (lb.1.map encE), .sl .sh (ks.1.map encK)] := by rw [← hR]; rfl
  rw [hRe] at t9
  cases hE : tapE ks.2 with
  | some c =>
    rw [hE] at t8
    have tw := fun h => wrap_run (s := repl) (c := 10) (e := some c) (h := h) (by omega)
    simp only [repl] at tw
    rw [hno _ hE (.inl (by simp))]
    simp (maxSteps := 4000000) -implicitDefEqProofs (disch := (refine id_ok ?_; first | assumption | omega | (simp only [go_sem, List.size_toArray, List.length_map, List.length_append, List.length_take, List.length_drop, List.length_cons, List.length_nil, mrLL_app, keyD_i, keyD_s, keyD_b, Nat.reduceAdd, Nat.reduceEqDiff, Nat.reduceLeDiff] <;> omega) | with_unfolding_all rfl | decide)) only [go_sem, Nat.reduceAdd, Nat.reduceSub, Nat.reduceMul, Nat.reduceLeDiff, Nat.reduceEqDiff, Nat.reduceBEq, reduceIte, reduceCtorEq, c_reply_Parse, hl1, hl2, app_get, app_set, app_get0, app_set0, t0, t1, t2, t3, t4, t5, t6, t7, t8, tw]
    rfl
  | none =>
    rw [hE] at t8
    have tw := fun h => wrap_run (s := repl) (c := 10) (e := none) (h := h) (by omega)
    simp only [repl] at tw
    by_cases hz : lb.2.1 = 0
    · have e1 : (lb.2.1 != 0) = false := by simp [hz]
      cases hr : rigR R with
      | false =>
        rw [hr] at t9
        rw [hno _ hE (.inr (.inr hr))]
        simp (maxSteps := 4000000) -implicitDefEqProofs (disch := (refine id_ok ?_; first | assumption | omega | (simp only [go_sem, List.size_toArray, List.length_map, List.length_append, List.length_take, List.length_drop, List.length_cons, List.length_nil, mrLL_app, keyD_i, keyD_s, keyD_b, Nat.reduceAdd, Nat.reduceEqDiff, Nat.reduceLeDiff] <;> omega) | with_unfolding_all rfl | decide)) only [go_sem, Nat.reduceAdd, Nat.reduceSub, Nat.reduceMul, Nat.reduceLeDiff, Nat.reduceEqDiff, Nat.reduceBEq, reduceIte, reduceCtorEq, c_reply_Parse, hl1, hl2, app_get, app_set, app_get0, app_set0, t0, t1, t2, t3, t4, t5, t6, t7, t8, tw, e1, t9]
        rfl
      | true =>
        rw [hr] at t9
        rw [hyes hE hz hr]
        simp (maxSteps := 4000000) -implicitDefEqProofs (disch := (refine id_ok ?_; first | assumption | omega | (simp only [go_sem, List.size_toArray, List.length_map, List.length_append, List.length_take, List.length_drop, List.length_cons, List.length_nil, mrLL_app, keyD_i, keyD_s, keyD_b, Nat.reduceAdd, Nat.reduceEqDiff, Nat.reduceLeDiff] <;> omega) | with_unfolding_all rfl | decide)) only [go_sem, Nat.reduceAdd, Nat.reduceSub, Nat.reduceMul, Nat.reduceLeDiff, Nat.reduceEqDiff, Nat.reduceBEq, reduceIte, reduceCtorEq, c_reply_Parse, hl1, hl2, app_get, app_set, app_get0, app_set0, t0, t1, t2, t3, t4, t5, t6, t7, t8, tw, e1, t9]
        rw [hRe]
    · have e1 : (lb.2.1 != 0) = true := by simp [hz]
      rw [hno _ hE (.inr (.inl hz))]
      simp (maxSteps := 4000000) -implicitDefEqProofs (disch := (refine id_ok ?_; first | assumption | omega | (simp only [go_sem, List.size_toArray, List.length_map, List.length_append, List.length_take, List.length_drop, List.length_cons, List.length_nil, mrLL_app, keyD_i, keyD_s, keyD_b, Nat.reduceAdd, Nat.reduceEqDiff, Nat.reduceLeDiff] <;> omega) | with_unfolding_all rfl | decide)) only [go_sem, Nat.reduceAdd, Nat.reduceSub, Nat.reduceMul, Nat.reduceLeDiff, Nat.reduceEqDiff, Nat.reduceBEq, reduceIte, reduceCtorEq, c_reply_Parse, hl1, hl2, app_get, app_set, app_get0, app_set0, t0, t1, t2, t3, t4, t5, t6, t7, t8, tw, e1]
      rfl
end Go.Proofs.YtjeigcnaalleiaaGreatDoor.L
