/- Right names are short. Replies: their bytes. -/
import Derived.Test.YtjeigcnaalleiaaGreatDoorL27
set_option linter.all false
set_option maxRecDepth 100000
namespace Go.Proofs.YtjeigcnaalleiaaGreatDoor.L
open Go.Proofs.YtjeigcnaalleiaaGreatDoor.M Go.Proofs.YtjeigcnaalleiaaGreatDoor.F Go.Proofs

theorem dec_len : ∀ (k u : Nat), u < 10 ^ (k + 1) → (Lib.decDigits u).length ≤ k + 1
  | 0, u, h => by rw [Lib.decDigits, dif_pos (by simpa using h)]; simp
  | k + 1, u, h => by
    rw [Lib.decDigits]
    split
    · simp
    · have h2 : u / 10 < 10 ^ (k + 1) := by
        refine Nat.div_lt_of_lt_mul ?_
        rw [Nat.pow_succ] at h; omega
      have := dec_len k (u / 10) h2
      simp; omega
theorem numC_len {s : List UInt8} {m : Int} (hm : m ≤ 1048576) (h : (numC s m).2 = true) : s.length ≤ 7 ∧ 0 ≤ (numC s m).1 ∧ (numC s m).1 ≤ m := by
  unfold numC at h ⊢
  split at h
  · rename_i v hv
    simp only [decide_eq_true_eq] at h
    obtain ⟨h0, h1, h2⟩ := h
    simp only
    refine ⟨?_, h0, h1⟩
    rw [← h2]
    unfold Lib.itoa
    rw [if_neg (by omega)]
    exact dec_len 6 v.toNat (by omega)
  · cases h
  · cases h
theorem pathC_all : ∀ (l : List (List UInt8)) (p q : List Int), pathC p l = some q → q.length = p.length + l.length ∧ ∀ w ∈ l, w.length ≤ 7
  | [], p, q, h => by simp only [pathC, Option.some.injEq] at h; subst h; simp
  | w :: l, p, q, h => by
    simp only [pathC] at h
    split at h
    · rename_i hc
      obtain ⟨h1, h2⟩ := pathC_all l _ q h
      refine ⟨by simp at h1 ⊢; omega, fun x hx => ?_⟩
      rcases List.mem_cons.1 hx with rfl | hx
      · exact (numC_len (by omega) hc.1).1
      · exact h2 x hx
    · cases h
theorem splitP_sum (c : UInt8) : ∀ s : List UInt8, ((splitP c s).map fun q => q.1.length + 1).sum = s.length + 1
  | [] => by simp [splitP]
  | b :: s => by
    have ih := splitP_sum c s
    obtain ⟨x, xs, hx⟩ := splitP_hd c s
    simp only [splitP]
    split
    · simp; omega
    · rw [hx] at ih ⊢
      simp at ih ⊢; omega
theorem sum_le : ∀ (l : List (List UInt8 × List UInt8)), (∀ q ∈ l, q.1.length ≤ 7) → (l.map fun q => q.1.length + 1).sum ≤ 8 * l.length
  | [], _ => by simp
  | a :: l, h => by
    have := sum_le l fun q hq => h q (List.mem_cons_of_mem _ hq)
    have h0 := h a (by simp)
    simp; omega
theorem cutC_sum {c : UInt8} {s : List UInt8} (h : (cutC c s).2.2 = true) : s.length = (cutC c s).1.length + 1 + (cutC c s).2.1.length := by
  have := idxB_lt s c
  unfold cutC at h ⊢
  split
  · simp; omega
  · rename_i hn; rw [if_neg hn] at h; cases h
theorem rigC_len {s : List UInt8} (h : rigC s = true) : s.length ≤ 60 := by
  unfold rigC parC at h
  split at h
  · rename_i hc
    have h1 := cutC_sum hc.1
    have h2 := (numC_len (by omega) hc.2).1
    split at h
    · rename_i hw; rw [hw] at h1; simp at h1; omega
    · split at h
      · rename_i q hq
        obtain ⟨k1, k2⟩ := pathC_all _ _ _ hq
        have k3 := pathC_len _ _ _ hq (by simp)
        have k4 := splitP_sum 46 (cutC 47 s).1
        have k5 := sum_le (splitP 46 (cutC 47 s).1) fun q hq => k2 _ (List.mem_map.2 ⟨q, hq, rfl⟩)
        simp at k1
        omega
      · cases h
  · cases h

def enK1 (k : Kd) : List UInt8 := num k.1.toNat ++ num k.2.1.toNat ++ num k.2.2.toNat
theorem bet_iff {n a b : Int} : bet n a b = true ↔ a ≤ n ∧ n ≤ b := by simp [bet]
theorem kput_loop {p : Nat} {l : List Kd} (hl : ∀ k ∈ l, (0 ≤ k.1 ∧ k.1 ≤ 1048576) ∧ (0 ≤ k.2.1 ∧ k.2.1 ≤ 1048576) ∧ (0 ≤ k.2.2 ∧ k.2.2 ≤ 1048576)) (hll : l.length ≤ 1000000) : ∀ (d i : Nat) (H : AH) (b : List UInt8), d + i = l.length → H[p]? = some (Pn b) → b.length + d * 27 + 27 ≤ 100000000000 →
    den T (.loop l_reply_Bytes_0) (s_reply_Bytes_0 (.box p 0) (.sl .sh (l.map encK)) (.int .i64 l.length) (.int .i64 i)) H = some (.exit 0, x_reply_Bytes_0 (.box p 0), H.set p (Pn (b ++ (l.drop i).flatMap enK1)) ++ (l.drop i).map bxK) := by
  intro d
  induction d with
  | zero =>
    intro i H b hd hp hb
    have hd' : decide ((i : Int) < l.length) = false := decide_eq_false (by omega)
    rw [List.drop_eq_nil_of_le (by omega), List.flatMap_nil, List.append_nil, set_same hp, List.map_nil, List.append_nil]
    rw [lp_round]
    simp -implicitDefEqProofs (disch := (refine id_ok ?_; first | assumption | omega | (simp only [go_sem, List.size_toArray, List.length_map, List.length_append, List.length_take, List.length_drop, List.length_cons, List.length_nil, mrLL_app, keyD_i, keyD_s, keyD_b, Nat.reduceAdd, Nat.reduceEqDiff, Nat.reduceLeDiff] <;> omega) | with_unfolding_all rfl | decide)) only [go_sem, Nat.reduceAdd, Nat.reduceSub, Nat.reduceMul, Nat.reduceLeDiff, Nat.reduceEqDiff, Nat.reduceBEq, reduceIte, reduceCtorEq, hd']
  | succ d ih =>
    intro i H b hd hp hb
    have hib : i < l.length := by omega
    have hd' : decide ((i : Int) < l.length) = true := decide_eq_true (by omega)
    have hge : (l.map encK)[(i : Int).toNat]? = some (encK l[i]) := by simp [hib]
    have hdr : l.drop i = l[i] :: l.drop (i + 1) := List.drop_eq_getElem_cons hib
    have hcl := hl l[i] (by simp)
    rw [hdr]
    generalize l[i] = e at *
    obtain ⟨u, v, w⟩ := e
    simp only at hcl
    obtain ⟨⟨hu1, hu2⟩, ⟨hv1, hv2⟩, hw1, hw2⟩ := hcl
    obtain ⟨u, rfl⟩ : ∃ n : Nat, u = n := ⟨u.toNat, by omega⟩
    obtain ⟨v, rfl⟩ : ∃ n : Nat, v = n := ⟨v.toNat, by omega⟩
    obtain ⟨w, rfl⟩ : ∃ n : Nat, w = n := ⟨w.toNat, by omega⟩
    have hlt : p < H.length := (List.getElem?_eq_some_iff.1 hp).1
    have hgp : ∀ x c : Bx, (H.set p x ++ [c])[p]? = some x := fun x c => by rw [List.getElem?_append_left (by simpa using hlt), List.getElem?_set_self hlt]
    have hne : ∀ X : Bx, (H ++ [X])[p]? = some (Pn b) := fun X => by rw [List.getElem?_append_left hlt]; exact hp
    have n1 := num_len (n := u) (by omega)
    have n2 := num_len (n := v) (by omega)
    have n3 := num_len (n := w) (by omega)
    have t1 := pnum_run (n := u) (hne (.cells (encK ((u : Int), (v : Int), (w : Int))))) (by omega) (by omega)
    rw [List.set_append_left _ _ hlt] at t1
    have t2 := pnum_run (p := p) (n := v) (l := b ++ num u) (h := H.set p (Pn (b ++ num u)) ++ [.cells (encK ((u : Int), (v : Int), (w : Int)))]) (hgp _ _) (by omega) (by simp only [List.length_append]; omega)
    rw [List.set_append_left _ _ (by simpa using hlt), List.set_set] at t2
    have t3 := pnum_run (p := p) (n := w) (l := b ++ num u ++ num v) (h := H.set p (Pn (b ++ num u ++ num v)) ++ [.cells (encK ((u : Int), (v : Int), (w : Int)))]) (hgp _ _) (by omega) (by simp only [List.length_append]; omega)
    rw [List.set_append_left _ _ (by simpa using hlt), List.set_set] at t3
    have gH : ∀ x c : Bx, (H.set p x ++ [c])[H.length]? = some c := fun x c => by rw [List.getElem?_append_right (by simp)]; simp
    have e7 : IntKind.i64.wrap ((i : Int) + 1) = ((i + 1 : Nat) : Int) := by rw [w64 (by omega) (by omega)]; rfl
    have ih' := ih (i + 1) (H.set p (Pn (b ++ num u ++ num v ++ num w)) ++ [.cells (encK ((u : Int), (v : Int), (w : Int)))]) (b ++ num u ++ num v ++ num w) (by omega) (hgp _ _) (by simp only [List.length_append]; omega)
    rw [List.set_append_left _ _ (by simpa using hlt), List.set_set] at ih'
    simp only [encK, List.append_assoc] at t1 t2 t3
    simp only [List.append_assoc] at ih'
    rw [lp_round]
    simp (maxSteps := 2000000) -implicitDefEqProofs (disch := (refine id_ok ?_; first | assumption | omega | (simp only [go_sem, List.size_toArray, List.length_map, List.length_append, List.length_take, List.length_drop, List.length_cons, List.length_nil, mrLL_app, keyD_i, keyD_s, keyD_b, Nat.reduceAdd, Nat.reduceEqDiff, Nat.reduceLeDiff] <;> omega) | with_unfolding_all rfl | decide)) only [go_sem, Nat.reduceAdd, Nat.reduceSub, Nat.reduceMul, Nat.reduceLeDiff, Nat.reduceEqDiff, Nat.reduceBEq, reduceIte, reduceCtorEq, hd', hge, encK, t1, t2, t3, gH, e7]
    refine ih'.trans ?_
    simp [enK1, bxK, encK, List.append_assoc]
theorem rigE_all : ∀ (l : List Ent) (p : Option (List UInt8)), rigE p l = true → ∀ e ∈ l, e.1.length ≤ 60 ∧ 0 ≤ e.2 ∧ e.2 < 4 ∧ e.2 ≠ 1
  | [], p, h, e, he => by cases he
  | a :: l, p, h, e, he => by
    simp only [rigE, Bool.and_eq_true, decide_eq_true_eq, Bool.not_eq_true', beq_eq_false_iff_ne] at h
    obtain ⟨⟨⟨⟨⟨h1, h2⟩, h3⟩, h4⟩, h5⟩, h6⟩ := h
    rcases List.mem_cons.1 he with rfl | he
    · exact ⟨rigC_len h1, h3, h4, h2⟩
    · exact rigE_all l _ h6 e he
theorem rigK_all : ∀ (l : List Kd) (p : Option Int), rigK p l = true → ∀ k ∈ l, (0 ≤ k.1 ∧ k.1 ≤ 1048576) ∧ (1 ≤ k.2.1 ∧ k.2.1 ≤ 5) ∧ (0 ≤ k.2.2 ∧ k.2.2 ≤ 1048576)
  | [], p, h, e, he => by cases he
  | a :: l, p, h, e, he => by
    simp only [rigK, Bool.and_eq_true, bet_iff] at h
    obtain ⟨⟨⟨⟨h1, h2⟩, h3⟩, h5⟩, h6⟩ := h
    rcases List.mem_cons.1 he with rfl | he
    · exact ⟨h1, h2, h3⟩
    · exact rigK_all l _ h6 e he
/-- What a right reply is bound by. -/
theorem rigR_all {r : Rep} (h : rigR r = true) : (0 ≤ r.e ∧ r.e ≤ 99) ∧ (0 ≤ r.n ∧ r.n ≤ 1099511627776) ∧ r.text.length ≤ 256 ∧ r.cat.length ≤ 60 ∧ (r.cat = [] ∨ rigC r.cat = true) ∧ rigL r.label = true ∧ r.label.length ≤ 8 ∧
    (∀ e ∈ r.label, e.1.length ≤ 60 ∧ 0 ≤ e.2 ∧ e.2 < 4 ∧ e.2 ≠ 1) ∧ r.kids.length ≤ 16 ∧ (∀ k ∈ r.kids, (0 ≤ k.1 ∧ k.1 ≤ 1048576) ∧ (1 ≤ k.2.1 ∧ k.2.1 ≤ 5) ∧ (0 ≤ k.2.2 ∧ k.2.2 ≤ 1048576)) := by
  simp only [rigR, Bool.and_eq_true, Bool.or_eq_true, bet_iff, decide_eq_true_eq, beq_iff_eq] at h
  obtain ⟨⟨h1, h2⟩, h3, h4, h5, h6, h7⟩ := h
  have h6' := h6
  simp only [rigL, Bool.and_eq_true, decide_eq_true_eq] at h6'
  refine ⟨h3, h4, h5, ?_, h2, h6, h6'.1, rigE_all _ _ h6'.2, h7, rigK_all _ _ h1⟩
  rcases h2 with h2 | h2
  · rw [h2]; simp
  · exact rigC_len h2
def byR (r : Rep) : List UInt8 := num r.e.toNat ++ num r.n.toNat ++ num r.text.length ++ r.text ++ num r.cat.length ++ r.cat ++ num r.label.length ++ r.label.flatMap enE1 ++ num r.kids.length ++ r.kids.flatMap enK1
end Go.Proofs.YtjeigcnaalleiaaGreatDoor.L

/- Replies: their bytes. -/
set_option linter.all false
set_option maxRecDepth 100000
namespace Go.Proofs.YtjeigcnaalleiaaGreatDoor.L
open Go.Proofs.YtjeigcnaalleiaaGreatDoor.M Go.Proofs.YtjeigcnaalleiaaGreatDoor.F Go.Proofs

theorem flatMap_len {α : Type} {f : α → List UInt8} {k : Nat} : ∀ (l : List α), (∀ a ∈ l, (f a).length ≤ k) → (l.flatMap f).length ≤ l.length * k
  | [], _ => by simp
  | a :: l, h => by
    have h1 := h a (by simp)
    have h2 := flatMap_len l fun b hb => h b (List.mem_cons_of_mem _ hb)
    simp only [List.flatMap_cons, List.length_append, List.length_cons, Nat.succ_mul]
    omega
theorem enE1_len {e : Ent} (h : e.1.length ≤ 60 ∧ 0 ≤ e.2 ∧ e.2 < 4 ∧ e.2 ≠ 1) : (enE1 e).length ≤ 80 := by
  have n1 := num_len (n := e.1.length) (by omega)
  have n2 := num_len (n := e.2.toNat) (by omega)
  simp only [enE1, List.length_append]; omega
theorem enK1_len {k : Kd} (h : (0 ≤ k.1 ∧ k.1 ≤ 1048576) ∧ (1 ≤ k.2.1 ∧ k.2.1 ≤ 5) ∧ (0 ≤ k.2.2 ∧ k.2.2 ≤ 1048576)) : (enK1 k).length ≤ 27 := by
  have n1 := num_len (n := k.1.toNat) (by omega)
  have n2 := num_len (n := k.2.1.toNat) (by omega)
  have n3 := num_len (n := k.2.2.toNat) (by omega)
  simp only [enK1, List.length_append]; omega
/-- What Bytes answers. -/
def bytR (r : Rep) : List UInt8 := if rigR r = true then byR r else []
/-- What memory holds is bounded. -/
def okR (r : Rep) : Prop := r.kids.length ≤ 1000000 ∧ r.cat.length ≤ 281474976710656 ∧ ∀ e ∈ r.label, e.1.length ≤ 281474976710656
theorem nset {R X Y : Bx} : ([R, X] : AH).set 1 Y = [R, Y] := rfl
set_option maxHeartbeats 4000000 in
theorem bytR_run {r : Rep} (ho : okR r) : run T 26 [.agg (encR r)] [] = some (ow ((bytR r).map encB), []) := by
  have hr := rigR_run ho.1 ho.2.1 ho.2.2
  rw [run_code T_26]
  unfold bytR
  cases h : rigR r with
  | false =>
    rw [h] at hr
    simp only [encR] at hr
    simp only [Bool.false_eq_true, if_false, List.map_nil]
    simp -implicitDefEqProofs (disch := (refine id_ok ?_; first | assumption | omega | (simp only [go_sem, List.size_toArray, List.length_map, List.length_append, List.length_take, List.length_drop, List.length_cons, List.length_nil, mrLL_app, keyD_i, keyD_s, keyD_b, Nat.reduceAdd, Nat.reduceEqDiff, Nat.reduceLeDiff] <;> omega) | with_unfolding_all rfl | decide)) only [go_sem, Nat.reduceAdd, Nat.reduceSub, Nat.reduceMul, Nat.reduceLeDiff, Nat.reduceEqDiff, Nat.reduceBEq, reduceIte, reduceCtorEq, c_reply_Bytes, encR, hr]
  | true =>
    rw [h] at hr
    obtain ⟨he, hn, ht, hc, _, _, hl8, hl, hk16, hk⟩ := rigR_all h
    have fl := flatMap_len (f := enE1) r.label fun e he => enE1_len (hl e he)
    have fk := flatMap_len (f := enK1) r.kids fun e he => enK1_len (hk e he)
    simp only [if_true]
    unfold byR
    obtain ⟨e, n, text, cat, label, kids⟩ := r
    simp only [encR] at he hn ht hc hl8 hl hk16 hk hr fl fk ⊢
    obtain ⟨e, rfl⟩ : ∃ k : Nat, e = k := ⟨e.toNat, by omega⟩
    obtain ⟨n, rfl⟩ : ∃ k : Nat, n = k := ⟨n.toNat, by omega⟩
    simp only [Int.toNat_natCast]
    have n1 := num_len (n := e) (by omega)
    have n2 := num_len (n := n) (by omega)
    have n3 := num_len (n := text.length) (by omega)
    have n4 := num_len (n := cat.length) (by omega)
    have n5 := num_len (n := label.length) (by omega)
    have n6 := num_len (n := kids.length) (by omega)
    generalize hR : Bx.cells [AV.int .i64 (e : Int), .int .i64 (n : Int), .sl .sh (text.map encB), .str ⟨cat.toArray⟩, .sl .sh (label.map encE), .sl .sh (kids.map encK)] = R
    have t1 := pnum_run (p := 1) (n := e) (l := []) (h := [R, Pn []]) rfl (by omega) (by simp)
    have t2 := pnum_run (p := 1) (n := n) (l := num e) (h := [R, Pn (num e)]) rfl (by omega) (by omega)
    have t3 := ptext_run (p := 1) (s := text) (l := num e ++ num n) (h := [R, Pn (num e ++ num n)]) rfl (by simp only [List.length_append]; omega)
    have t4 := ptext_run (p := 1) (s := cat) (l := num e ++ num n ++ num text.length ++ text) (h := [R, Pn (num e ++ num n ++ num text.length ++ text)]) rfl (by simp only [List.length_append]; omega)
    have t5 := lput_run (p := 1) (l := label) (b := num e ++ num n ++ num text.length ++ text ++ num cat.length ++ cat) (h := [R, Pn (num e ++ num n ++ num text.length ++ text ++ num cat.length ++ cat)]) rfl (fun x hx => by have := hl x hx; omega) (by omega) (by simp only [List.length_append]; omega)
    have t6 := pnum_run (p := 1) (n := kids.length) (l := num e ++ num n ++ num text.length ++ text ++ num cat.length ++ cat ++ num label.length ++ label.flatMap enE1) (h := [R, Pn (num e ++ num n ++ num text.length ++ text ++ num cat.length ++ cat ++ num label.length ++ label.flatMap enE1)]) rfl (by omega) (by simp only [List.length_append]; omega)
    have t7 := kput_loop (p := 1) (l := kids) (fun x hx => by have := hk x hx; omega) (by omega) kids.length 0 [R, Pn (num e ++ num n ++ num text.length ++ text ++ num cat.length ++ cat ++ num label.length ++ label.flatMap enE1 ++ num kids.length)] _ (by omega) rfl (by simp only [List.length_append]; omega)
    rw [List.drop_zero] at t7
    simp only [show ((0 : Nat) : Int) = 0 from rfl] at t7
    simp only [nset, List.nil_append, List.cons_append, List.append_assoc] at t1 t2 t3 t4 t5 t6 t7
    have t8 := pbytes_run (p := 1) (l := num e ++ (num n ++ (num text.length ++ (text ++ (num cat.length ++ (cat ++ (num label.length ++ (label.flatMap enE1 ++ (num kids.length ++ kids.flatMap enK1))))))))) (h := R :: Pn (num e ++ (num n ++ (num text.length ++ (text ++ (num cat.length ++ (cat ++ (num label.length ++ (label.flatMap enE1 ++ (num kids.length ++ kids.flatMap enK1))))))))) :: kids.map bxK) rfl (by simp only [List.length_append]; omega)
    rw [← hR] at t1 t2 t3 t4 t5 t6 t7 t8
    clear hR
    simp (maxSteps := 2000000) -implicitDefEqProofs (disch := (refine id_ok ?_; first | assumption | omega | (simp only [go_sem, List.size_toArray, List.length_map, List.length_append, List.length_take, List.length_drop, List.length_cons, List.length_nil, mrLL_app, keyD_i, keyD_s, keyD_b, Nat.reduceAdd, Nat.reduceEqDiff, Nat.reduceLeDiff] <;> omega) | with_unfolding_all rfl | decide)) only [go_sem, Nat.reduceAdd, Nat.reduceSub, Nat.reduceMul, Nat.reduceLeDiff, Nat.reduceEqDiff, Nat.reduceBEq, reduceIte, reduceCtorEq, c_reply_Bytes, encR, hr, show Bx.cells [ow []] = Pn [] from rfl, t1, t2, t3, t4, t5, t6, List.length_map, t7, t8]
end Go.Proofs.YtjeigcnaalleiaaGreatDoor.L
