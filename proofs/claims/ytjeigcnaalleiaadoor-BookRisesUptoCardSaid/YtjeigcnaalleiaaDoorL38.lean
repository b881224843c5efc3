/- BookRises: the law. -/
import Derived.Test.YtjeigcnaalleiaaDoorL37
set_option linter.all false
set_option maxRecDepth 100000
namespace Go.Proofs.YtjeigcnaalleiaaDoor.L
open Go.Proofs.YtjeigcnaalleiaaDoor.M Go.Proofs.YtjeigcnaalleiaaDoor.F Go.Proofs

theorem enL1_cp {l : Ln} (h : okL l) : enL1 (cpL l) = enL1 l := by
  rcases h with rfl | ⟨n, r, rfl, _, _, hr⟩
  · simp [enL1, cpL]
  · have : cpL (n, some r) = (n, some r) := by
      show (n, some (copR r)) = (n, some r)
      rw [copR_right hr]
    rw [this]
theorem enL1_cps : ∀ {b : List Ln}, (∀ l ∈ b, okL l) → (b.map cpL).flatMap enL1 = b.flatMap enL1
  | [], _ => rfl
  | l :: b, h => by
    rw [List.map_cons, List.flatMap_cons, List.flatMap_cons, enL1_cp (h l (by simp)), enL1_cps fun x hx => h x (List.mem_cons_of_mem _ hx)]
theorem okR_par (x : List UInt8) : okR ((parR x).getD zeroR) := by
  unfold parR
  split
  · rename_i h; exact okR_right h.2.2
  · exact okR_zero
theorem lines_len {b : List Ln} (hb : b.length = 8) (hok : ∀ l ∈ b, okL l) : (b.flatMap enL1).length ≤ 100000 := by
  have := flatMap_len (f := enL1) (k := 3000) b (fun l hl => by
    have h2 := okL_n (hok l hl)
    have n1 := num_len (n := l.1.toNat) (by omega)
    have hbl := bytR_len (repL l)
    have n2 := num_len (n := (bytR (repL l)).length) (by omega)
    unfold enL1
    split
    · simp only [List.length_append]; omega
    · simp only [List.length_append, List.length_nil]; omega)
  omega
def r1 : Rep := ⟨0, 1, [], [], [], []⟩
set_option maxHeartbeats 8000000 in
theorem rises_run {l : List Opn} (hl : ∀ o ∈ l, okO o) (hll : l.length ≤ 1048576) : run T 6 [.sl .sh (l.map encOp)] [] = some (.bool true, []) := by
  have h1 := bnew_run (h := [])
  simp only [List.length_nil, List.nil_append] at h1
  rcases rise_loop hl hll l.length 0 newB [] (by omega) rfl okL_new with ⟨b, js, hok, hb, h2⟩ | ⟨σ, h', h2, h3⟩
  · simp only [show ((0 : Nat) : Int) = 0 from rfl] at h2
    have hs : ∀ l ∈ b, (0 ≤ l.1 ∧ l.1 ≤ 1048576) ∧ okR (repL l) := fun l hl => ⟨okL_n (hok l hl), okL_R (hok l hl)⟩
    have hS := lines_len hb hok
    have hput := getB_put b [] hok
    rw [hb, List.append_nil] at hput
    have hcps := enL1_cps hok
    -- the heaps
    obtain ⟨H0, hH0⟩ : ∃ H0 : AH, H0 = Bk b :: js := ⟨_, rfl⟩
    rw [← hH0] at h2
    have g0 : H0[0]? = some (Bk b) := by rw [hH0]; rfl
    have l0 : 0 < H0.length := by rw [hH0]; simp
    have f1 := bclone_run g0 hb (fun l hl => (hs l hl).2)
    obtain ⟨H1, hH1⟩ : ∃ H1 : AH, H1 = H0 ++ Bk (b.map cpL) :: b.map bxL := ⟨_, rfl⟩
    rw [← hH1] at f1
    have g1 : H1[0]? = some (Bk b) := by rw [hH1, List.getElem?_append_left l0]; exact g0
    have g1c : H1[H0.length]? = some (Bk (b.map cpL)) := by rw [hH1, app_get0]; rfl
    have l1 : H0.length < H1.length := by rw [hH1]; simp
    have f2 := byts_run g1 hb hs
    have f3 := tnew_run (b := b.flatMap enL1) (h := H1) (by omega)
    obtain ⟨js', f4⟩ := bget_run (h := H1) (s := (b.flatMap enL1, none)) (by simp only; omega) hput rfl
    obtain ⟨H2, hH2⟩ : ∃ H2 : AH, H2 = H1 ++ Tb ([], none) :: Bk b :: js' := ⟨_, rfl⟩
    rw [← hH2] at f4
    have g2 : H2[0]? = some (Bk b) := by rw [hH2, List.getElem?_append_left (by omega)]; exact g1
    have g2c : H2[H0.length]? = some (Bk (b.map cpL)) := by rw [hH2, List.getElem?_append_left l1]; exact g1c
    have g2g : H2[H1.length + 1]? = some (Bk b) := by rw [hH2, app_get]; rfl
    have l2 : H1.length + 1 < H2.length := by rw [hH2]; simp
    have f5 := byts_run g2 hb hs
    have f6 := lst_run (c := 0) g2 hb (fun l hl => (hs l hl).2)
    have lb := lst_bound (c := 0) hok
    have e8 : IntKind.i64.wrap ((lstB b 0).1 + 1) = (lstB b 0).1 + 1 := w64 (by omega) (by omega)
    have gx : ∀ X : Bx, (H2 ++ [X])[0]? = some (Bk b) := fun X => by rw [List.getElem?_append_left (by omega)]; exact g2
    have f7 := fun X => not_run (c := 0) (n := (lstB b 0).1 + 1) (r := r1) (gx X) hb (fun l hl => (hs l hl).1) (by exact ⟨by decide, by decide, by simp [r1]⟩)
    have sx : ∀ X Y : Bx, (H2 ++ [X]).set 0 Y = H2.set 0 Y ++ [X] := fun X Y => List.set_append_left _ _ (by omega)
    simp only [sx] at f7
    obtain ⟨H3, hH3⟩ : ∃ H3 : AH, H3 = H2.set 0 (Bk (notB b 0 ((lstB b 0).1 + 1) r1).2) := ⟨_, rfl⟩
    rw [← hH3] at f7
    have g3g : ∀ X : Bx, (H3 ++ [X])[H1.length + 1]? = some (Bk b) := fun X => by
      rw [List.getElem?_append_left (by rw [hH3]; simpa using l2), hH3, List.getElem?_set_ne (by omega)]; exact g2g
    have g3c : ∀ X : Bx, (H3 ++ [X])[H0.length]? = some (Bk (b.map cpL)) := fun X => by
      rw [List.getElem?_append_left (by rw [hH3]; simp; omega), hH3, List.getElem?_set_ne (by omega)]; exact g2c
    have f8 := fun X => byts_run (g3g X) hb hs
    have f9 := fun X => byts_run (g3c X) (by simp [hb]) (fun l hl => by
      obtain ⟨x, hx, rfl⟩ := List.mem_map.1 hl
      exact ⟨(hs x hx).1, okR_par _⟩)
    rw [hcps] at f9
    generalize b.flatMap enL1 = S at *
    have eS : (S == S) = true := by simp
    generalize lstB b 0 = lb0 at *
    generalize (notB b 0 (lb0.1 + 1) r1).1 = e0 at *
    simp only [encR, r1, List.map_nil] at f6 f7
    rw [run_code T_6]
    simp (maxSteps := 4000000) -implicitDefEqProofs (disch := (refine id_ok ?_; first | assumption | omega | (simp only [go_sem, List.length_map, List.length_append, List.length_take, List.length_drop, mrLL_app, keyD_i, keyD_s, keyD_b, Nat.reduceAdd, Nat.reduceEqDiff, Nat.reduceLeDiff] <;> omega) | with_unfolding_all rfl | decide)) only [go_sem, Nat.reduceAdd, Nat.reduceSub, Nat.reduceMul, Nat.reduceLeDiff, Nat.reduceEqDiff, Nat.reduceBEq, reduceIte, reduceCtorEq, c_regencylaw17_BookRises, first17, h1, List.length_map, h2, f1, f2, f3, f4, f5, f6, e8, f7, f8, f9, eS, app_get0, app_set0]
  · simp only [show ((0 : Nat) : Int) = 0 from rfl] at h2
    rw [run_code T_6]
    simp (maxSteps := 2000000) -implicitDefEqProofs (disch := (refine id_ok ?_; first | assumption | omega | (simp only [go_sem, List.length_map, List.length_append, List.length_take, List.length_drop, mrLL_app, keyD_i, keyD_s, keyD_b, Nat.reduceAdd, Nat.reduceEqDiff, Nat.reduceLeDiff] <;> omega) | with_unfolding_all rfl | decide)) only [go_sem, Nat.reduceAdd, Nat.reduceSub, Nat.reduceMul, Nat.reduceLeDiff, Nat.reduceEqDiff, Nat.reduceBEq, reduceIte, reduceCtorEq, c_regencylaw17_BookRises, first17, h1, List.length_map, h2, h3]
end Go.Proofs.YtjeigcnaalleiaaDoor.L
