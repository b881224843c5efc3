/- What is read is what was written. -/
import Derived.Test.YtjeigcnaalleiaaGreatDoorL31
set_option linter.all false
set_option maxRecDepth 100000
namespace Go.Proofs.YtjeigcnaalleiaaGreatDoor.L
open Go.Proofs.YtjeigcnaalleiaaGreatDoor.M Go.Proofs.YtjeigcnaalleiaaGreatDoor.F Go.Proofs

theorem rdN_num : ∀ (n i acc : Nat) (rest : List UInt8), i + (numP n).length ≤ 8 → ¬ (0 < i ∧ n = 0) → rdN acc i (num n ++ rest) = (acc + n * 128 ^ i, i + (num n).length, 0) := by
  intro n
  induction n using Nat.strongRecOn with
  | _ n ih =>
    intro i acc rest hi hn
    by_cases h : n < 128
    · have hnum : num n = [UInt8.ofNat n] := by rw [num]; simp [h]
      have ht : (UInt8.ofNat n).toNat = n := by simp; omega
      rw [hnum]
      simp only [List.cons_append, List.nil_append, rdN, ht, List.length_cons, List.length_nil]
      rw [if_neg (by omega), if_neg (by omega), if_neg (by omega)]
    · have hnum : num n = UInt8.ofNat (n % 128 + 128) :: num (n / 128) := by rw [num]; simp [h]
      have hp : numP n = UInt8.ofNat (n % 128 + 128) :: numP (n / 128) := by rw [numP]; simp [h]
      have ht : (UInt8.ofNat (n % 128 + 128)).toNat = n % 128 + 128 := by simp; omega
      rw [hp, List.length_cons] at hi
      rw [hnum]
      simp only [List.cons_append, rdN, ht, List.length_cons]
      rw [if_neg (by omega), if_pos (by omega), Nat.add_sub_cancel, ih (n / 128) (by omega) (i + 1) _ rest (by omega) (by omega)]
      have : acc + n % 128 * 128 ^ i + n / 128 * 128 ^ (i + 1) = acc + n * 128 ^ i := by
        rw [Nat.pow_succ, Nat.mul_comm (128 ^ i) 128, ← Nat.mul_assoc, Nat.add_assoc, ← Nat.add_mul]
        congr 2
        omega
      rw [this]
      congr 2
      omega
theorem rdN_0 {n : Nat} {rest : List UInt8} (h : n ≤ 4611686018427387903) : rdN 0 0 (num n ++ rest) = (n, (num n).length, 0) := by
  have := numP_len 8 n (by omega)
  rw [rdN_num n 0 0 rest (by omega) (by omega)]
  simp
theorem tapN_num {n g : Nat} {rest : List UInt8} (h : n ≤ g) (hg : g ≤ 4611686018427387903) : tapN g (num n ++ rest, none) = (n, rest, none) := by
  unfold tapN
  simp only [Option.isSome_none, Bool.false_eq_true, if_false, rdN_0 (show n ≤ 4611686018427387903 by omega), ne_eq, not_true_eq_false]
  rw [if_neg (by omega)]
  simp
theorem tapT_txt {s rest : List UInt8} {g : Nat} (h : s.length ≤ g) (hg : g ≤ 4611686018427387903) : tapT g (num s.length ++ (s ++ rest), none) = (s, rest, none) := by
  unfold tapT
  simp only [Option.isSome_none, Bool.false_eq_true, if_false, tapN_num h hg]
  rw [if_neg (by simp)]
  simp
theorem getEs_put : ∀ (l : List Ent) (rest : List UInt8), (∀ e ∈ l, e.1.length ≤ 60 ∧ 0 ≤ e.2 ∧ e.2 < 4 ∧ e.2 ≠ 1) → getEs l.length (l.flatMap enE1 ++ rest, none) = (l, rest, none)
  | [], rest, h => by simp [getEs]
  | e :: l, rest, h => by
    obtain ⟨h1, h2, h3, _⟩ := h e (by simp)
    have ih := getEs_put l rest fun x hx => h x (List.mem_cons_of_mem _ hx)
    obtain ⟨c, v⟩ := e
    simp only at h1 h2 h3
    obtain ⟨v, rfl⟩ : ∃ k : Nat, v = k := ⟨v.toNat, by omega⟩
    have e1 : ((c, (v : Int)) :: l).flatMap enE1 ++ rest = num c.length ++ (c ++ (num v ++ (l.flatMap enE1 ++ rest))) := by simp [enE1, List.append_assoc]
    rw [e1, List.length_cons, getEs, tapT_txt (by omega) (by omega)]
    simp only
    rw [tapN_num (by omega) (by omega)]
    simp only [ih]
theorem getL_put {l : List Ent} {rest : List UInt8} (h : rigL l = true) : getL (num l.length ++ (l.flatMap enE1 ++ rest), none) = (l, 0, rest, none) := by
  have h' := h
  simp only [rigL, Bool.and_eq_true, decide_eq_true_eq] at h'
  unfold getL
  rw [tapN_num h'.1 (by omega)]
  simp only [getEs_put l rest (rigE_all _ _ h'.2), Option.isSome_none, h, and_self, if_true]
theorem getK_put : ∀ (l : List Kd) (rest : List UInt8), (∀ k ∈ l, (0 ≤ k.1 ∧ k.1 ≤ 1048576) ∧ (1 ≤ k.2.1 ∧ k.2.1 ≤ 5) ∧ (0 ≤ k.2.2 ∧ k.2.2 ≤ 1048576)) → getK l.length (l.flatMap enK1 ++ rest, none) = (l, rest, none)
  | [], rest, h => by simp [getK]
  | k :: l, rest, h => by
    obtain ⟨⟨a1, a2⟩, ⟨b1, b2⟩, c1, c2⟩ := h k (by simp)
    have ih := getK_put l rest fun x hx => h x (List.mem_cons_of_mem _ hx)
    obtain ⟨u, v, w⟩ := k
    simp only at a1 a2 b1 b2 c1 c2
    obtain ⟨u, rfl⟩ : ∃ k : Nat, u = k := ⟨u.toNat, by omega⟩
    obtain ⟨v, rfl⟩ : ∃ k : Nat, v = k := ⟨v.toNat, by omega⟩
    obtain ⟨w, rfl⟩ : ∃ k : Nat, w = k := ⟨w.toNat, by omega⟩
    have e1 : (((u : Int), (v : Int), (w : Int)) :: l).flatMap enK1 ++ rest = num u ++ (num v ++ (num w ++ (l.flatMap enK1 ++ rest))) := by simp [enK1, List.append_assoc]
    rw [e1, List.length_cons, getK, tapN_num (by omega) (by omega)]
    simp only
    rw [tapN_num (by omega) (by omega)]
    simp only
    rw [tapN_num (by omega) (by omega)]
    simp only [ih]
theorem parR_put {r : Rep} (h : rigR r = true) : parR (byR r) = some r := by
  obtain ⟨he, hn, ht, hc, _, hl, hl8, hle, hk16, hk⟩ := rigR_all h
  have hrd : rdR (byR r) = ⟨r.e.toNat, r.n.toNat, r.text, r.cat, (r.label, 0), r.kids.length, r.kids, ([], none)⟩ := by
    unfold rdR byR
    simp only [List.append_assoc]
    rw [tapN_num (by omega) (by omega)]
    simp only
    rw [tapN_num (by omega) (by omega)]
    simp only
    rw [tapT_txt ht (by omega)]
    simp only
    rw [tapT_txt (by omega) (by omega)]
    simp only
    rw [getL_put hl]
    simp only
    rw [tapN_num hk16 (by omega)]
    simp only
    have := getK_put r.kids [] hk
    rw [List.append_nil] at this
    rw [this]
  have hr : (rdR (byR r)).r = r := by
    rw [hrd]
    obtain ⟨e, n, text, cat, label, kids⟩ := r
    simp only at he hn
    simp only [Rd1.r, Rep.mk.injEq, and_self, and_true]
    omega
  unfold parR
  rw [hr, hrd]
  rw [if_pos ⟨rfl, rfl, h⟩]
theorem copR_right {r : Rep} (h : rigR r = true) : copR r = r := by
  unfold copR bytR
  rw [if_pos h, parR_put h]; rfl

attribute [local irreducible] tapN tapT parR
/-- A book's lines read. -/
def getB : Nat → TS → Option (List Ln × TS)
  | 0, s => some ([], s)
  | k + 1, s =>
    if (tapN 1048576 s).1 = 0 then (getB k (tapN 1048576 s).2).map fun q => ((0, none) :: q.1, q.2)
    else match parR (tapT 2048 (tapN 1048576 s).2).1 with
      | none => none
      | some r => (getB k (tapT 2048 (tapN 1048576 s).2).2).map fun q => ((((tapN 1048576 s).1 : Int), some r) :: q.1, q.2)
/-- A line as it stands in a book. -/
def okL (l : Ln) : Prop := l = (0, none) ∨ ∃ n r, l = (n, some r) ∧ 1 ≤ n ∧ n ≤ 1048576 ∧ rigR r = true
theorem getB_zero {k : Nat} {s s2 : TS} (h : tapN 1048576 s = (0, s2)) : getB (k + 1) s = (getB k s2).map fun q => ((0, none) :: q.1, q.2) := by
  rw [getB, h]; rfl
theorem getB_some {k n : Nat} {s s2 s3 : TS} {t : List UInt8} {r : Rep} (h : tapN 1048576 s = (n, s2)) (hn : n ≠ 0) (h2 : tapT 2048 s2 = (t, s3)) (hr : parR t = some r) : getB (k + 1) s = (getB k s3).map fun q => (((n : Int), some r) :: q.1, q.2) := by
  rw [getB, h]
  simp only
  rw [if_neg hn, h2]
  simp only [hr]
theorem enL1_0 : enL1 (0, none) = num 0 := by simp [enL1]
theorem getB_put : ∀ (b : List Ln) (rest : List UInt8), (∀ l ∈ b, okL l) → getB b.length (b.flatMap enL1 ++ rest, none) = some (b, rest, none)
  | [], rest, h => by simp [getB]
  | l :: b, rest, h => by
    have ih := getB_put b rest fun x hx => h x (List.mem_cons_of_mem _ hx)
    rw [List.length_cons, List.flatMap_cons, List.append_assoc]
    rcases h l (by simp) with rfl | ⟨n, r, rfl, h1, h2, hr⟩
    · rw [enL1_0, getB_zero (tapN_num (n := 0) (by omega) (by omega)), ih]; rfl
    · obtain ⟨n, rfl⟩ : ∃ k : Nat, n = k := ⟨n.toNat, by omega⟩
      have e0 : enL1 ((n : Int), some r) = num n ++ (num (bytR r).length ++ bytR r) := by
        unfold enL1; rw [if_pos (by simp only; omega)]; rfl
      have hl := bytR_len r
      have hby : bytR r = byR r := by unfold bytR; rw [if_pos hr]
      have hp : parR (bytR r) = some r := by rw [hby, parR_put hr]
      rw [e0, List.append_assoc, List.append_assoc, getB_some (tapN_num (n := n) (by omega) (by omega)) (by omega) (tapT_txt (by omega) (by omega)) hp, ih]
      rfl
end Go.Proofs.YtjeigcnaalleiaaGreatDoor.L

/- Books: read from a tape. -/
set_option linter.all false
set_option maxRecDepth 100000
namespace Go.Proofs.YtjeigcnaalleiaaGreatDoor.L
open Go.Proofs.YtjeigcnaalleiaaGreatDoor.M Go.Proofs.YtjeigcnaalleiaaGreatDoor.F Go.Proofs

theorem tnum_at0 {h : AH} {js : AH} {s : TS} {g : Nat} (hs : s.1.length ≤ 9223372036854775806) : run T 39 [.box h.length 0, .int .i64 g] (h ++ Tb s :: js) = some (.int .i64 (tapN g s).1, h ++ Tb (tapN g s).2 :: js) := by
  have := tnum_run (t := h.length) (g := g) (s := s) (h := h ++ Tb s :: js) (by rw [app_get0]; rfl) hs
  rw [app_set0] at this; exact this
theorem ttext_at0 {h : AH} {js : AH} {s : TS} {g : Nat} (hs : s.1.length ≤ 9223372036854775806) : run T 40 [.box h.length 0, .int .i64 g] (h ++ Tb s :: js) = some (.str ⟨(tapT g s).1.toArray⟩, h ++ Tb (tapT g s).2 :: js) := by
  have := ttext_run (t := h.length) (g := g) (s := s) (h := h ++ Tb s :: js) (by rw [app_get0]; rfl) hs
  rw [app_set0] at this; exact this
theorem terr_at0 {h : AH} {js : AH} {s : TS} : run T 41 [.box h.length 0] (h ++ Tb s :: js) = some (er s.2, h ++ Tb s :: js) :=
  terr_run (by rw [app_get0]; rfl)
def padB (p : List Ln) (d : Nat) : List Ln := p ++ List.replicate d (0, none)
theorem padB_set {p : List Ln} {d : Nat} {x : Ln} : (padB p (d + 1)).set p.length x = padB (p ++ [x]) d := by
  unfold padB
  rw [List.set_append_right _ _ (Nat.le_refl _), Nat.sub_self, List.replicate_succ, List.set_cons_zero, List.append_assoc, List.singleton_append]
theorem padB_succ {p : List Ln} {d : Nat} : padB p (d + 1) = padB (p ++ [(0, none)]) d := by
  unfold padB
  rw [List.replicate_succ, List.append_assoc, List.singleton_append]
attribute [local irreducible] tapN tapT parR
set_option maxHeartbeats 4000000 in
theorem get8_loop {h : AH} : ∀ (d : Nat) (p : List Ln) (s : TS) (js : AH) (ls : List Ln) (s' : TS), d + p.length = 8 → s.1.length < 140737488355328 → getB d s = some (ls, s') →
    ∃ js', den T (.loop l_clients_Get_0) (s_clients_Get_0 (.box h.length 0) (.box (h.length + 1) 0) (.int .i64 p.length)) (h ++ Tb s :: Bk (padB p d) :: js) = some (.exit 0, x_clients_Get_0 (.box h.length 0) (.box (h.length + 1) 0), h ++ Tb s' :: Bk (p ++ ls) :: js') := by
  intro d
  induction d with
  | zero =>
    intro p s js ls s' hd hs hg
    simp only [getB, Option.some.injEq, Prod.mk.injEq] at hg
    obtain ⟨rfl, rfl⟩ := hg
    have hd' : decide ((p.length : Int) < 8) = false := decide_eq_false (by omega)
    have e : padB p 0 = p := by simp [padB]
    refine ⟨js, ?_⟩
    rw [e, List.append_nil]
    rw [lp_round]
    simp -implicitDefEqProofs (disch := (refine id_ok ?_; first | assumption | omega | (simp only [go_sem, List.size_toArray, List.length_map, List.length_append, List.length_take, List.length_drop, List.length_cons, List.length_nil, mrLL_app, keyD_i, keyD_s, keyD_b, Nat.reduceAdd, Nat.reduceEqDiff, Nat.reduceLeDiff] <;> omega) | with_unfolding_all rfl | decide)) only [go_sem, Nat.reduceAdd, Nat.reduceSub, Nat.reduceMul, Nat.reduceLeDiff, Nat.reduceEqDiff, Nat.reduceBEq, reduceIte, reduceCtorEq, hd']
  | succ d ih =>
    intro p s js ls s' hd hs hg
    have hd' : decide ((p.length : Int) < 8) = true := decide_eq_true (by omega)
    have t1 := fun js => tnum_at0 (h := h) (js := js) (s := s) (g := 1048576) (by omega)
    simp only [show ((1048576 : Nat) : Int) = 1048576 from rfl] at t1
    have l1 := tapN_len 1048576 s
    have e7 : IntKind.i64.wrap ((p.length : Int) + 1) = ((p.length + 1 : Nat) : Int) := by rw [w64 (by omega) (by omega)]; rfl
    rw [getB] at hg
    generalize tapN 1048576 s = x at *
    obtain ⟨n, s2⟩ := x
    simp only at hg t1 l1
    by_cases hn : n = 0
    · subst hn
      rw [if_pos rfl, Option.map_eq_some_iff] at hg
      obtain ⟨⟨ls2, s3⟩, hg2, he⟩ := hg
      simp only [Prod.mk.injEq] at he
      obtain ⟨rfl, rfl⟩ := he
      obtain ⟨js', hj⟩ := ih (p ++ [(0, none)]) s2 js ls2 s3 (by simp; omega) (by omega) hg2
      refine ⟨js', ?_⟩
      rw [← padB_succ, List.length_append, List.length_cons, List.length_nil, List.append_assoc, List.singleton_append] at hj
      rw [lp_round]
      simp (maxSteps := 2000000) -implicitDefEqProofs (disch := (refine id_ok ?_; first | assumption | omega | (simp only [go_sem, List.size_toArray, List.length_map, List.length_append, List.length_take, List.length_drop, List.length_cons, List.length_nil, mrLL_app, keyD_i, keyD_s, keyD_b, Nat.reduceAdd, Nat.reduceEqDiff, Nat.reduceLeDiff] <;> omega) | with_unfolding_all rfl | decide)) only [go_sem, Nat.reduceAdd, Nat.reduceSub, Nat.reduceMul, Nat.reduceLeDiff, Nat.reduceEqDiff, Nat.reduceBEq, reduceIte, reduceCtorEq, hd', t1, show (((0 : Nat) : Int) == 0) = true from rfl, e7]
      exact hj
    · rw [if_neg hn] at hg
      have t2 := fun js => ttext_at0 (h := h) (js := js) (s := s2) (g := 2048) (by omega)
      simp only [show ((2048 : Nat) : Int) = 2048 from rfl] at t2
      have l2 := tapT_len 2048 s2
      have l3 := tapT_str 2048 s2
      generalize tapT 2048 s2 = y at *
      obtain ⟨tx, s4⟩ := y
      simp only at hg t2 l2 l3
      have t3 := fun h => parR_run (b := tx) (h := h) (by omega)
      cases hp : parR tx with
      | none => rw [hp] at hg; cases hg
      | some r =>
        rw [hp] at hg
        simp only [Option.map_eq_some_iff] at hg
        obtain ⟨⟨ls2, s3⟩, hg2, he⟩ := hg
        simp only [Prod.mk.injEq] at he
        obtain ⟨rfl, rfl⟩ := he
        have hres : repRes tx = .tup [.agg (encR r), .nili] := by unfold repRes; rw [hp]
        rw [hres] at t3
        obtain ⟨js', hj⟩ := ih (p ++ [((n : Int), some r)]) s4 (js ++ [.cells (encR r)]) ls2 s3 (by simp; omega) (by omega) hg2
        refine ⟨js', ?_⟩
        rw [List.length_append, List.length_cons, List.length_nil, List.append_assoc p, List.singleton_append] at hj
        have e1 : ((n : Int) == 0) = false := by simp; omega
        have hpl : (padB p (d + 1)).length = 8 := by simp [padB]; omega
        have hov := flat_ovl (b := padB p (d + 1)) (i := p.length) ((n : Int), some r) (by rw [hpl]; omega)
        rw [padB_set] at hov
        have hle : Nat.ble (p.length * 7 + 7) ((padB p (d + 1)).flatMap encL).length = true := by rw [flat_len, hpl]; exact Nat.ble_eq_true_of_le (by omega)
        have hlJ : ∀ X Y : Bx, (h ++ X :: Y :: js).length = h.length + (2 + js.length) := fun X Y => by simp; omega
        have gJ : ∀ a b c : Bx, (a :: b :: (js ++ [c]))[2 + js.length]? = some c := fun a b c => by rw [Nat.add_comm]; simp
        have sJ : ∀ a b c x : Bx, (a :: b :: (js ++ [c])).set (2 + js.length) x = a :: b :: (js ++ [x]) := fun a b c x => by rw [Nat.add_comm]; simp
        simp only [encL, encO, encR, ovl, List.cons_append, List.nil_append, List.length_cons, List.length_nil, List.append_assoc, Nat.zero_add, Nat.reduceAdd] at hov
        simp only [encR] at t3 hj
        rw [lp_round]
        simp (maxSteps := 2000000) -implicitDefEqProofs (disch := (refine id_ok ?_; first | assumption | omega | (simp only [go_sem, List.size_toArray, List.length_map, List.length_append, List.length_take, List.length_drop, List.length_cons, List.length_nil, mrLL_app, keyD_i, keyD_s, keyD_b, Nat.reduceAdd, Nat.reduceEqDiff, Nat.reduceLeDiff] <;> omega) | with_unfolding_all rfl | decide)) only [go_sem, Nat.reduceAdd, Nat.reduceSub, Nat.reduceMul, Nat.reduceLeDiff, Nat.reduceEqDiff, Nat.reduceBEq, reduceIte, reduceCtorEq, hd', t1, t2, t3, e1, e7, Int.toNat_natCast, hlJ, gJ, sJ, app_get, app_set, app_get0, app_set0, Bk, hle]
        rw [hov]
        exact hj
theorem bget_run {h : AH} {s s' : TS} {ls : List Ln} (hs : s.1.length < 140737488355328) (hg : getB 8 s = some (ls, s')) (he : s'.2 = none) :
    ∃ js', run T 18 [.box h.length 0] (h ++ [Tb s]) = some (.tup [.box (h.length + 1) 0, .int .i64 0], h ++ Tb s' :: Bk ls :: js') := by
  obtain ⟨js', h1⟩ := get8_loop (h := h) 8 [] s [] ls s' rfl hs hg
  simp only [List.length_nil, show ((0 : Nat) : Int) = 0 from rfl, List.nil_append, show padB [] 8 = newB from rfl] at h1
  refine ⟨js', ?_⟩
  have h2 := bnew_run (h := h ++ [Tb s])
  have hl1 : ∀ X : Bx, (h ++ [X]).length = h.length + 1 := fun X => by simp
  have h3 := fun js => terr_at0 (h := h) (js := js) (s := s')
  rw [he] at h3
  simp only [hl1, List.append_assoc, List.cons_append, List.nil_append] at h2
  rw [run_code T_18]
  simp (maxSteps := 2000000) -implicitDefEqProofs (disch := (refine id_ok ?_; first | assumption | omega | (simp only [go_sem, List.size_toArray, List.length_map, List.length_append, List.length_take, List.length_drop, List.length_cons, List.length_nil, mrLL_app, keyD_i, keyD_s, keyD_b, Nat.reduceAdd, Nat.reduceEqDiff, Nat.reduceLeDiff] <;> omega) | with_unfolding_all rfl | decide)) only [go_sem, Nat.reduceAdd, Nat.reduceSub, Nat.reduceMul, Nat.reduceLeDiff, Nat.reduceEqDiff, Nat.reduceBEq, reduceIte, reduceCtorEq, c_clients_Get, h2, h1, h3]
  rw [gc_keep (by simp only [AV.mr, mrL, List.length_append, List.length_cons, List.length_nil]; omega)]
end Go.Proofs.YtjeigcnaalleiaaGreatDoor.L
