/- Replies: their bytes. -/
import Derived.Test.YtjeigcnaalleiaaDoorL28
set_option linter.all false
set_option maxRecDepth 100000
namespace Go.Proofs.YtjeigcnaalleiaaDoor.L
open Go.Proofs.YtjeigcnaalleiaaDoor.M Go.Proofs.YtjeigcnaalleiaaDoor.F Go.Proofs

theorem flatMap_len {α : Type} {f : α → List UInt8} {k : Nat} : ∀ (l : List α), (∀ a ∈ l, (f a).length ≤ k) → (l.flatMap f).length ≤ l.length * k
  | [], _ => by simp
  | a :: l, h => by
    have h1 := h a (by simp)
    have h2 := flatMap_len l fun b hb => h b (List.mem_cons_of_mem _ hb)
    simp only [List.flatMap_cons, List.length_append, List.length_cons, Nat.succ_mul]
    omega
theorem enE1_len {e : Ent} (h : e.1.length ≤ 60 ∧ 0 ≤ e.2 ∧ e.2 < 4 ∧ e.2 ≠ 1) : (enE1 e).length ≤ 80 := by
  have n1 := num_len (n := e.1.length) (by omega)
  have n2 := num_len (n := e.2.toNat) (by omega)
  simp only [enE1, List.length_append]; omega
theorem enK1_len {k : Kd} (h : (0 ≤ k.1 ∧ k.1 ≤ 1048576) ∧ (1 ≤ k.2.1 ∧ k.2.1 ≤ 5) ∧ (0 ≤ k.2.2 ∧ k.2.2 ≤ 1048576)) : (enK1 k).length ≤ 27 := by
  have n1 := num_len (n := k.1.toNat) (by omega)
  have n2 := num_len (n := k.2.1.toNat) (by omega)
  have n3 := num_len (n := k.2.2.toNat) (by omega)
  simp only [enK1, List.length_append]; omega
/-- What Bytes answers. -/
def bytR (r : Rep) : List UInt8 := if rigR r = true then byR r else []
/-- What memory holds is bounded. -/
def okR (r : Rep) : Prop := r.kids.length ≤ 1000000 ∧ r.cat.length ≤ 281474976710656 ∧ ∀ e ∈ r.label, e.1.length ≤ 281474976710656
theorem nset {R X Y : Bx} : ([R, X] : AH).set 1 Y = [R, Y] := rfl
set_option maxHeartbeats 4000000 in
theorem bytR_run {r : Rep} (ho : okR r) : run T 71 [.agg (encR r)] [] = some (ow ((bytR r).map encB), []) := by
  have hr := rigR_run ho.1 ho.2.1 ho.2.2
  rw [run_code T_71]
  unfold bytR
  cases h : rigR r with
  | false =>
    rw [h] at hr
    simp only [encR] at hr
    simp only [Bool.false_eq_true, if_false, List.map_nil]
    simp -implicitDefEqProofs (disch := (refine id_ok ?_; first | assumption | omega | (simp only [go_sem, List.length_map, List.length_append, List.length_take, List.length_drop, mrLL_app, keyD_i, keyD_s, keyD_b, Nat.reduceAdd, Nat.reduceEqDiff, Nat.reduceLeDiff] <;> omega) | with_unfolding_all rfl | decide)) only [go_sem, Nat.reduceAdd, Nat.reduceSub, Nat.reduceMul, Nat.reduceLeDiff, Nat.reduceEqDiff, Nat.reduceBEq, reduceIte, reduceCtorEq, c_reply_Bytes, encR, hr]
  | true =>
    rw [h] at hr
    obtain ⟨he, hn, ht, hc, _, _, hl8, hl, hk16, hk⟩ := rigR_all h
    have fl := flatMap_len (f := enE1) r.label fun e he => enE1_len (hl e he)
    have fk := flatMap_len (f := enK1) r.kids fun e he => enK1_len (hk e he)
    simp only [if_true]
    unfold byR
    obtain ⟨e, n, text, cat, label, kids⟩ := r
    simp only [encR] at he hn ht hc hl8 hl hk16 hk hr fl fk ⊢
    obtain ⟨e, rfl⟩ : ∃ k : Nat, e = k := ⟨e.toNat, by omega⟩
    obtain ⟨n, rfl⟩ : ∃ k : Nat, n = k := ⟨n.toNat, by omega⟩
    simp only [Int.toNat_natCast]
    have n1 := num_len (n := e) (by omega)
    have n2 := num_len (n := n) (by omega)
    have n3 := num_len (n := text.length) (by omega)
    have n4 := num_len (n := cat.length) (by omega)
    have n5 := num_len (n := label.length) (by omega)
    have n6 := num_len (n := kids.length) (by omega)
    generalize hR : Bx.cells [AV.int .i64 (e : Int), .int .i64 (n : Int), .sl .sh (text.map encB), .str ⟨cat.toArray⟩, .sl .sh (label.map encE), .sl .sh (kids.map encK)] = R
    have t1 := pnum_run (p := 1) (n := e) (l := []) (h := [R, Pn []]) rfl (by omega) (by simp)
    have t2 := pnum_run (p := 1) (n := n) (l := num e) (h := [R, Pn (num e)]) rfl (by omega) (by omega)
    have t3 := ptext_run (p := 1) (s := text) (l := num e ++ num n) (h := [R, Pn (num e ++ num n)]) rfl (by simp only [List.length_append]; omega)
    have t4 := ptext_run (p := 1) (s := cat) (l := num e ++ num n ++ num text.length ++ text) (h := [R, Pn (num e ++ num n ++ num text.length ++ text)]) rfl (by simp only [List.length_append]; omega)
    have t5 := lput_run (p := 1) (l := label) (b := num e ++ num n ++ num text.length ++ text ++ num cat.length ++ cat) (h := [R, Pn (num e ++ num n ++ num text.length ++ text ++ num cat.length ++ cat)]) rfl (fun x hx => by have := hl x hx; omega) (by omega) (by simp only [List.length_append]; omega)
    have t6 := pnum_run (p := 1) (n := kids.length) (l := num e ++ num n ++ num text.length ++ text ++ num cat.length ++ cat ++ num label.length ++ label.flatMap enE1) (h := [R, Pn (num e ++ num n ++ num text.length ++ text ++ num cat.length ++ cat ++ num label.length ++ label.flatMap enE1)]) rfl (by omega) (by simp only [List.length_append]; omega)
    have t7 := kput_loop (p := 1) (l := kids) (fun x hx => by have := hk x hx; omega) (by omega) kids.length 0 [R, Pn (num e ++ num n ++ num text.length ++ text ++ num cat.length ++ cat ++ num label.length ++ label.flatMap enE1 ++ num kids.length)] _ (by omega) rfl (by simp only [List.length_append]; omega)
    rw [List.drop_zero] at t7
    simp only [show ((0 : Nat) : Int) = 0 from rfl] at t7
    simp only [nset, List.nil_append, List.cons_append, List.append_assoc] at t1 t2 t3 t4 t5 t6 t7
    have t8 := pbytes_run (p := 1) (l := num e ++ (num n ++ (num text.length ++ (text ++ (num cat.length ++ (cat ++ (num label.length ++ (label.flatMap enE1 ++ (num kids.length ++ kids.flatMap enK1))))))))) (h := R :: Pn (num e ++ (num n ++ (num text.length ++ (text ++ (num cat.length ++ (cat ++ (num label.length ++ (label.flatMap enE1 ++ (num kids.length ++ kids.flatMap enK1))))))))) :: kids.map bxK) rfl (by simp only [List.length_append]; omega)
    rw [← hR] at t1 t2 t3 t4 t5 t6 t7 t8
    clear hR
    simp (maxSteps := 2000000) -implicitDefEqProofs (disch := (refine id_ok ?_; first | assumption | omega | (simp only [go_sem, List.length_map, List.length_append, List.length_take, List.length_drop, mrLL_app, keyD_i, keyD_s, keyD_b, Nat.reduceAdd, Nat.reduceEqDiff, Nat.reduceLeDiff] <;> omega) | with_unfolding_all rfl | decide)) only [go_sem, Nat.reduceAdd, Nat.reduceSub, Nat.reduceMul, Nat.reduceLeDiff, Nat.reduceEqDiff, Nat.reduceBEq, reduceIte, reduceCtorEq, c_reply_Bytes, encR, hr, show Bx.cells [ow []] = Pn [] from rfl, t1, t2, t3, t4, t5, t6, List.length_map, t7, t8]
end Go.Proofs.YtjeigcnaalleiaaDoor.L
