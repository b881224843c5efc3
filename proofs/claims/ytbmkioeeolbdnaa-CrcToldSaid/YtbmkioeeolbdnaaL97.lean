/- CrcTold: the law. -/
import Derived.Test.YtbmkioeeolbdnaaL96
import Derived.Test.YtbmkioeeolbdnaaL9
import Derived.Test.YtbmkioeeolbdnaaM25
set_option linter.all false
set_option maxRecDepth 100000
namespace Go.Proofs.Ytbmkioeeolbdnaa.L
open Go.Proofs.Ytbmkioeeolbdnaa.M Go.Proofs.Ytbmkioeeolbdnaa.F Go.Proofs Go.RowKit

def finQ (cf : CFn) (e : Ex) (σ : List AV) (h : AH) : Prop := e.fin ∧ ∃ vs, retV h cf.res σ = some vs ∧ ((oneOf vs).mr ≤ ([] : AH).length ∧ ([] : AH).length ≤ h.length ∧ gcOK [] h ∧ (oneOf vs = .bool true ∧ h.take ([] : AH).length = []))
theorem finQ_of {cf : CFn} {e : Ex} {σ : List AV} {h : AH} (he : e.fin) (h1 : retV h cf.res σ = some [.bool true]) : finQ cf e σ h :=
  ⟨he, _, h1, by simp [oneOf, AV.mr], by simp, fun i hi => absurd hi (by simp), rfl, rfl⟩
section
variable {T : Tbl} {P : Program} {a1 a2 a3 a4 b : CC} {σ : List AV} {h : AH} {Q : Ex → List AV → AH → Prop}
theorem W_pre3 (hT : ∀ f d, T f = some d → OkDef P f d) (hd : dv T (.seq a1 (.seq a2 a3)) σ h (Kq P b Q)) : M.W P (.seq a1 (.seq a2 (.seq a3 b))) σ h Q := by
  have := W_pre hT hd
  simp only [M.W] at this ⊢
  exact this
theorem W_pre4 (hT : ∀ f d, T f = some d → OkDef P f d) (hd : dv T (.seq a1 (.seq a2 (.seq a3 a4))) σ h (Kq P b Q)) : M.W P (.seq a1 (.seq a2 (.seq a3 (.seq a4 b)))) σ h Q := by
  have := W_pre hT hd
  simp only [M.W] at this ⊢
  exact this
end
theorem seal_call {l : List UInt8} {h : AH} (hn : l.length ≤ 500) : CallW Try.prog 5 [.sl .sh (l.map encB)] h (fun r h' => r = .bs h.length 0 (l.length + 4) none ∧ h' = h ++ [.cells ((sealB l).map bAV)]) := by
  have h1 := seal_run (l := l) (h := []) (by omega)
  have hne : sealB l ≠ [] := fun z => by have := congrArg List.length z; rw [sealB_len] at this; simp at this
  have ho : ow ((sealB l).map encB) = .sl .own ((sealB l).map encB) := by
    cases hs : sealB l with
    | nil => exact absurd hs hne
    | cons c r => rfl
  rw [ho] at h1
  have := CallW_box (h := h) hne (by simp only [mrL, AV.mr, mr_enc]; rfl) (run_sound okT h1 (K := fun r h' => h' = [] ∧ r = .sl .own ((sealB l).map encB)) ⟨rfl, rfl⟩)
  rw [sealB_len] at this
  exact this
theorem open_call {s : List UInt8} {id : Nat} {h : AH} (hs : s.length ≤ 1000) (hb : h[id]? = some (.cells (s.map bAV))) : ∃ (l : List UInt8) (ok : Bool), ((openP s ∧ ok = true ∧ l = s.take (s.length - 4)) ∨ (¬ openP s ∧ ok = false ∧ l = [])) ∧
    CallW Try.prog 6 [.bs id 0 s.length none] h (fun r h' => h' = h ∧ r = .tup [ow (l.map encB), .bool ok]) := by
  by_cases ho : openP s
  · exact ⟨_, true, .inl ⟨ho, rfl, rfl⟩, CallW_snap hb (run_sound okT (open_yes (h := []) (by omega) ho) (K := fun r h' => h' = [] ∧ r = _) ⟨rfl, rfl⟩)⟩
  · exact ⟨_, false, .inr ⟨ho, rfl, rfl⟩, CallW_snap hb (run_sound okT (open_no (h := []) (by omega) ho) (K := fun r h' => h' = [] ∧ r = _) ⟨rfl, rfl⟩)⟩
theorem ixa : Int.toNat 0 * 1 = 0 := rfl
theorem ixb : Int.toNat 1 * 1 = 1 := rfl
theorem ix97 {i : Nat} : 0 + ((i : Int)).toNat * 1 = i := by rw [Int.toNat_natCast]; omega
theorem shl97 : ∀ q : Nat, q < 8 → IntKind.u8.wrap (1 * 2 ^ min ((q : Int)).toNat (kb .u8)) = ((2 ^ q : Nat) : Int)
  | 0, _ => rfl
  | 1, _ => rfl
  | 2, _ => rfl
  | 3, _ => rfl
  | 4, _ => rfl
  | 5, _ => rfl
  | 6, _ => rfl
  | 7, _ => rfl
  | q + 8, h => by omega
theorem xor97 {c : UInt8} {q : Nat} (hq : q < 8) : IntKind.u8.wrap ((BitVec.ofInt (kb .u8) (c.toNat : Int) ^^^ BitVec.ofInt (kb .u8) ((2 ^ q : Nat) : Int)).toNat : Int) = ((fb c q).toNat : Int) := by
  have hc := c.toNat_lt
  have h2 : 2 ^ q < 2 ^ 8 := Nat.pow_lt_pow_right (by omega) hq
  have e1 : (BitVec.ofInt 8 (c.toNat : Int)).toNat = c.toNat := by rw [BitVec.toNat_ofInt]; omega
  have e2 : (BitVec.ofInt 8 ((2 ^ q : Nat) : Int)).toNat = 2 ^ q := by
    have h3 : 2 ^ q < 256 := h2
    generalize 2 ^ q = m at *
    rw [BitVec.toNat_ofInt]; omega
  show IntKind.u8.wrap (((BitVec.ofInt 8 (c.toNat : Int) ^^^ BitVec.ofInt 8 ((2 ^ q : Nat) : Int)).toNat : Nat) : Int) = _
  rw [BitVec.toNat_xor, e1, e2, fb_toNat hq, w8]
  have : c.toNat ^^^ 2 ^ q < 2 ^ 8 := Nat.xor_lt_two_pow hc h2
  omega
theorem flip97 {s : List UInt8} {i : Nat} (hi : i / 8 < s.length) : (s.map bAV).take (i / 8) ++ AV.int .u8 ((fb (s.getD (i / 8) 0) (i % 8)).toNat : Int) :: (s.map bAV).drop (i / 8 + 1) = (flipB s i).map bAV := by
  have : (s.map bAV).take (i / 8) ++ AV.int .u8 ((fb (s.getD (i / 8) 0) (i % 8)).toNat : Int) :: (s.map bAV).drop (i / 8 + 1) = (s.map bAV).set (i / 8) (bAV (fb (s.getD (i / 8) 0) (i % 8))) := by
    rw [List.set_eq_take_append_cons_drop, if_pos (by simpa using hi)]; rfl
  rw [this, ← List.map_set]
  rfl
set_option maxHeartbeats 32000000 in
theorem told_call {b : List UInt8} {x y : Int} (hx : 0 ≤ x ∧ x < 65536) (hy : 0 ≤ y ∧ y < 65536) : CallW Try.prog 3 [.sl .sh (b.map encB), .agg [.int .u16 x, .int .u16 y]] [] (fun r h => r = .bool true ∧ h = []) := by
  refine CallW_gc (call_of_body is_regencylaw02_CrcTold ?_ ⟨.bool true, [], by simp [AV.mr], by simp, fun i hi => absurd hi (by simp), rfl, rfl⟩)
  show M.W Try.prog c_regencylaw02_CrcTold.body _ [] (finQ c_regencylaw02_CrcTold)
  refine W_pre3 okT ?_
  by_cases g1 : (b.length : Int) > 500
  · have d1 : decide ((b.length : Int) > 500) = true := decide_eq_true g1
    simp (maxSteps := 8000000) -implicitDefEqProofs (disch := (refine id_ok ?_; first | assumption | omega | (simp only [go_sem, List.size_toArray, List.length_map, List.length_append, List.length_take, List.length_drop, List.length_cons, List.length_nil, mrLL_app, keyD_i, keyD_s, keyD_b, Nat.reduceAdd, Nat.reduceEqDiff, Nat.reduceLeDiff] <;> omega) | with_unfolding_all rfl | decide)) only [go_sem, Nat.reduceAdd, Nat.reduceSub, Nat.reduceMul, Nat.reduceLeDiff, Nat.reduceEqDiff, Nat.reduceBEq, reduceIte, reduceCtorEq, c_regencylaw02_CrcTold, first02, List.length_map, d1]
    exact finQ_of trivial rfl
  have d1 : decide ((b.length : Int) > 500) = false := decide_eq_false g1
  simp (maxSteps := 8000000) -implicitDefEqProofs (disch := (refine id_ok ?_; first | assumption | omega | (simp only [go_sem, List.size_toArray, List.length_map, List.length_append, List.length_take, List.length_drop, List.length_cons, List.length_nil, mrLL_app, keyD_i, keyD_s, keyD_b, Nat.reduceAdd, Nat.reduceEqDiff, Nat.reduceLeDiff] <;> omega) | with_unfolding_all rfl | decide)) only [go_sem, Nat.reduceAdd, Nat.reduceSub, Nat.reduceMul, Nat.reduceLeDiff, Nat.reduceEqDiff, Nat.reduceBEq, reduceIte, reduceCtorEq, c_regencylaw02_CrcTold, first02, List.length_map, d1]
  refine W_call2 okT (l := [⟨some 18, .mov (.tmp 0), none⟩]) (r := [⟨some 5, .take (.tmp 19), none⟩]) (d := 19) (f := 5) (xs := [.tmp 18]) ?_
  simp (maxSteps := 8000000) -implicitDefEqProofs (disch := (refine id_ok ?_; first | assumption | omega | (simp only [go_sem, List.size_toArray, List.length_map, List.length_append, List.length_take, List.length_drop, List.length_cons, List.length_nil, mrLL_app, keyD_i, keyD_s, keyD_b, Nat.reduceAdd, Nat.reduceEqDiff, Nat.reduceLeDiff] <;> omega) | with_unfolding_all rfl | decide)) only [go_sem, Nat.reduceAdd, Nat.reduceSub, Nat.reduceMul, Nat.reduceLeDiff, Nat.reduceEqDiff, Nat.reduceBEq, reduceIte, reduceCtorEq]
  refine (seal_call (by omega)).mono ?_
  rintro v h2 ⟨rfl, rfl⟩
  simp only [List.length_cons, List.length_nil, Nat.zero_add, List.cons_append, List.nil_append]
  have hbl : b.length ≤ 500 := by omega
  have hs0 := sealB_len b
  obtain ⟨N, hN⟩ : ∃ N, N = 8 * (b.length + 4) := ⟨_, rfl⟩
  obtain ⟨i, hi⟩ : ∃ i, i = x.toNat % N := ⟨_, rfl⟩
  obtain ⟨j, hj⟩ : ∃ j, j = y.toNat % N := ⟨_, rfl⟩
  have hiN : i < 8 * (b.length + 4) := by rw [← hN, hi]; exact Nat.mod_lt _ (by omega)
  have hjN : j < 8 * (b.length + 4) := by rw [← hN, hj]; exact Nat.mod_lt _ (by omega)
  obtain ⟨to1, to2, to3⟩ := told hbl hiN hjN
  have e4 : IntKind.i64.wrap ((b.length : Int) + 4) = ((b.length + 4 : Nat) : Int) := by rw [w64 (by omega) (by omega)]; rfl
  have e5 : (((b.length + 4 : Nat) : Int) != ((b.length + 4 : Nat) : Int)) = false := by simp
  have e6 : IntKind.i64.wrap (8 * ((b.length + 4 : Nat) : Int)) = ((N : Nat) : Int) := by rw [w64 (by omega) (by omega)]; omega
  have ex : IntKind.i64.wrap x = x := w64 (by omega) (by omega)
  have ey : IntKind.i64.wrap y = y := w64 (by omega) (by omega)
  have ei : x.tmod ((N : Nat) : Int) = ((i : Nat) : Int) := by
    have hn : x = (x.toNat : Int) := by omega
    rw [hi]
    conv => lhs; rw [hn]
    rw [Int.tmod_eq_emod_of_nonneg (by omega)]; rfl
  have ej : y.tmod ((N : Nat) : Int) = ((j : Nat) : Int) := by
    have hn : y = (y.toNat : Int) := by omega
    rw [hj]
    conv => lhs; rw [hn]
    rw [Int.tmod_eq_emod_of_nonneg (by omega)]; rfl
  have q1 : ∀ k : Nat, k < 8 * (b.length + 4) → IntKind.i64.wrap (((k : Nat) : Int).tdiv 8) = ((k / 8 : Nat) : Int) := fun k hk => by
    rw [Int.tdiv_eq_ediv_of_nonneg (by omega), w64 (by omega) (by omega)]; omega
  have r1 : ∀ k : Nat, ((k : Nat) : Int).tmod 8 = ((k % 8 : Nat) : Int) := fun k => by rw [Int.tmod_eq_emod_of_nonneg (by omega)]; rfl
  have qi := q1 i hiN
  have qj := q1 j hjN
  have ri := r1 i
  have rj := r1 j
  have si := shl97 (i % 8) (Nat.mod_lt _ (by omega))
  have sj := shl97 (j % 8) (Nat.mod_lt _ (by omega))
  obtain ⟨s1, hs1⟩ : ∃ s1, s1 = flipB (sealB b) i := ⟨_, rfl⟩
  obtain ⟨s2, hs2⟩ : ∃ s2, s2 = flipB s1 j := ⟨_, rfl⟩
  have l1 : s1.length = b.length + 4 := by rw [hs1, flipB_len, hs0]
  have l2 : s2.length = b.length + 4 := by rw [hs2, flipB_len, l1]
  have xi := xor97 (c := (sealB b).getD (i / 8) 0) (q := i % 8) (Nat.mod_lt _ (by omega))
  have xj := xor97 (c := s1.getD (j / 8) 0) (q := j % 8) (Nat.mod_lt _ (by omega))
  have gi : ((sealB b).map bAV)[i / 8]? = some (.int .u8 (((sealB b).getD (i / 8) 0).toNat : Int)) := by
    have : i / 8 < (sealB b).length := by omega
    simp [List.getD, this, bAV]
  have gj : (s1.map bAV)[j / 8]? = some (.int .u8 ((s1.getD (j / 8) 0).toNat : Int)) := by
    have : j / 8 < s1.length := by omega
    simp [List.getD, this, bAV]
  have fi := flip97 (s := sealB b) (i := i) (by omega)
  have fj := flip97 (s := s1) (i := j) (by omega)
  rw [← hs1] at fi
  rw [← hs2] at fj
  have bi : Nat.ble (i / 8 + 1) ((sealB b).map bAV).length = true := by rw [List.length_map]; exact Nat.ble_eq_true_of_le (by omega)
  have bj : Nat.ble (j / 8 + 1) (s1.map bAV).length = true := by rw [List.length_map]; exact Nat.ble_eq_true_of_le (by omega)
  rw [← hs1] at to1 to2 to3
  rw [← hs2] at to2 to3
  have hN0 : ((N : Nat) : Int) ≠ 0 := by omega
  have hi8 : ((i / 8 : Nat) : Int) < ((b.length + 4 : Nat) : Int) := by omega
  have hj8 : ((j / 8 : Nat) : Int) < ((b.length + 4 : Nat) : Int) := by omega
  clear hN hi hj hs1 hs2
  refine W_pre4 okT ?_
  simp (maxSteps := 8000000) -implicitDefEqProofs (disch := (refine id_ok ?_; first | assumption | omega | (simp only [go_sem, List.size_toArray, List.length_map, List.length_append, List.length_take, List.length_drop, List.length_cons, List.length_nil, mrLL_app, keyD_i, keyD_s, keyD_b, Nat.reduceAdd, Nat.reduceEqDiff, Nat.reduceLeDiff] <;> omega) | with_unfolding_all rfl | decide)) only [go_sem, Nat.reduceAdd, Nat.reduceSub, Nat.reduceMul, Nat.reduceLeDiff, Nat.reduceEqDiff, Nat.reduceBEq, reduceIte, reduceCtorEq, List.length_map, e4, e5, e6, ex, ey, ei, ej, qi, ri, si, xi, gi, fi, bi, ix97, ixa, ixb]
  -- the first reading: told
  obtain ⟨m1, ok1, hm1, hc1⟩ := open_call (s := s1) (id := 1) (h := [Bx.cells [.int .u16 x, .int .u16 y], Bx.cells (s1.map bAV)]) (by omega) rfl
  have hn1 : ¬ openP s1 := fun ho => to1 (by have := ho.2; rwa [l1, Nat.add_sub_cancel] at this)
  obtain ⟨rfl, rfl⟩ : ok1 = false ∧ m1 = [] := by
    rcases hm1 with ⟨ho, _⟩ | ⟨_, h1, h2⟩
    · exact absurd ho hn1
    · exact ⟨h1, h2⟩
  rw [l1] at hc1
  refine W_call2 okT (l := [⟨some 50, .mov (.tmp 5), none⟩]) (r := [⟨some 49, .take (.tmp 51), none⟩, ⟨some 52, .extract 49 0, none⟩, ⟨some 53, .extract 49 1, none⟩, ⟨some 9, .take (.tmp 52), none⟩, ⟨some 10, .mov (.tmp 53), none⟩]) (d := 51) (f := 6) (xs := [.tmp 50]) ?_
  simp (maxSteps := 8000000) -implicitDefEqProofs (disch := (refine id_ok ?_; first | assumption | omega | (simp only [go_sem, List.size_toArray, List.length_map, List.length_append, List.length_take, List.length_drop, List.length_cons, List.length_nil, mrLL_app, keyD_i, keyD_s, keyD_b, Nat.reduceAdd, Nat.reduceEqDiff, Nat.reduceLeDiff] <;> omega) | with_unfolding_all rfl | decide)) only [go_sem, Nat.reduceAdd, Nat.reduceSub, Nat.reduceMul, Nat.reduceLeDiff, Nat.reduceEqDiff, Nat.reduceBEq, reduceIte, reduceCtorEq]
  refine hc1.mono ?_
  rintro v h2 ⟨rfl, rfl⟩
  simp (maxSteps := 8000000) -implicitDefEqProofs (disch := (refine id_ok ?_; first | assumption | omega | (simp only [go_sem, List.size_toArray, List.length_map, List.length_append, List.length_take, List.length_drop, List.length_cons, List.length_nil, mrLL_app, keyD_i, keyD_s, keyD_b, Nat.reduceAdd, Nat.reduceEqDiff, Nat.reduceLeDiff] <;> omega) | with_unfolding_all rfl | decide)) only [go_sem, Nat.reduceAdd, Nat.reduceSub, Nat.reduceMul, Nat.reduceLeDiff, Nat.reduceEqDiff, Nat.reduceBEq, reduceIte, reduceCtorEq, List.map_nil]
  refine W_pre okT ?_
  simp (maxSteps := 8000000) -implicitDefEqProofs (disch := (refine id_ok ?_; first | assumption | omega | (simp only [go_sem, List.size_toArray, List.length_map, List.length_append, List.length_take, List.length_drop, List.length_cons, List.length_nil, mrLL_app, keyD_i, keyD_s, keyD_b, Nat.reduceAdd, Nat.reduceEqDiff, Nat.reduceLeDiff] <;> omega) | with_unfolding_all rfl | decide)) only [go_sem, Nat.reduceAdd, Nat.reduceSub, Nat.reduceMul, Nat.reduceLeDiff, Nat.reduceEqDiff, Nat.reduceBEq, reduceIte, reduceCtorEq, List.length_map, qj, rj, sj, xj, gj, fj, bj, ix97]
  -- the second
  obtain ⟨m2, ok2, hm2, hc2⟩ := open_call (s := s2) (id := 1) (h := [Bx.cells [.int .u16 x, .int .u16 y], Bx.cells (s2.map bAV)]) (by omega) rfl
  have hm2' : (i = j ∧ ok2 = true ∧ m2 = b) ∨ (i ≠ j ∧ ok2 = false) := by
    rcases hm2 with ⟨ho, h1, h2⟩ | ⟨ho, h1, h2⟩
    · left
      have hij : i = j := to2.1 (by have := ho.2; rwa [l2, Nat.add_sub_cancel] at this)
      refine ⟨hij, h1, ?_⟩
      rw [h2, to3 hij, take_seal]
    · right
      refine ⟨fun hij => ho ⟨by omega, ?_⟩, h1⟩
      rw [l2, Nat.add_sub_cancel]
      exact to2.2 hij
  rw [l2] at hc2
  refine W_call2 okT (l := [⟨some 65, .take (.tmp 5), none⟩]) (r := [⟨some 64, .take (.tmp 66), none⟩, ⟨some 67, .extract 64 0, none⟩, ⟨some 68, .extract 64 1, none⟩, ⟨some 11, .take (.tmp 67), none⟩, ⟨some 12, .mov (.tmp 68), none⟩]) (d := 66) (f := 6) (xs := [.tmp 65]) ?_
  simp (maxSteps := 8000000) -implicitDefEqProofs (disch := (refine id_ok ?_; first | assumption | omega | (simp only [go_sem, List.size_toArray, List.length_map, List.length_append, List.length_take, List.length_drop, List.length_cons, List.length_nil, mrLL_app, keyD_i, keyD_s, keyD_b, Nat.reduceAdd, Nat.reduceEqDiff, Nat.reduceLeDiff] <;> omega) | with_unfolding_all rfl | decide)) only [go_sem, Nat.reduceAdd, Nat.reduceSub, Nat.reduceMul, Nat.reduceLeDiff, Nat.reduceEqDiff, Nat.reduceBEq, reduceIte, reduceCtorEq]
  refine hc2.mono ?_
  rintro v h2 ⟨rfl, rfl⟩
  simp (maxSteps := 8000000) -implicitDefEqProofs (disch := (refine id_ok ?_; first | assumption | omega | (simp only [go_sem, List.size_toArray, List.length_map, List.length_append, List.length_take, List.length_drop, List.length_cons, List.length_nil, mrLL_app, keyD_i, keyD_s, keyD_b, Nat.reduceAdd, Nat.reduceEqDiff, Nat.reduceLeDiff] <;> omega) | with_unfolding_all rfl | decide)) only [go_sem, Nat.reduceAdd, Nat.reduceSub, Nat.reduceMul, Nat.reduceLeDiff, Nat.reduceEqDiff, Nat.reduceBEq, reduceIte, reduceCtorEq]
  refine dv_sound okT _ _ _ _ _ (fun _ _ _ z => z) ?_
  rcases hm2' with ⟨hij, rfl, rfl⟩ | ⟨hij, rfl⟩
  · have z1 : (((i : Nat) : Int) == ((j : Nat) : Int)) = true := by simp [hij]
    have z2 : (m2 == m2) = true := by simp
    simp (maxSteps := 8000000) -implicitDefEqProofs (disch := (refine id_ok ?_; first | assumption | omega | (simp only [go_sem, List.size_toArray, List.length_map, List.length_append, List.length_take, List.length_drop, List.length_cons, List.length_nil, mrLL_app, keyD_i, keyD_s, keyD_b, Nat.reduceAdd, Nat.reduceEqDiff, Nat.reduceLeDiff] <;> omega) | with_unfolding_all rfl | decide)) only [go_sem, Nat.reduceAdd, Nat.reduceSub, Nat.reduceMul, Nat.reduceLeDiff, Nat.reduceEqDiff, Nat.reduceBEq, reduceIte, reduceCtorEq, z1, z2, toList_mk]
    exact finQ_of trivial rfl
  · have z1 : (((i : Nat) : Int) == ((j : Nat) : Int)) = false := by simp; omega
    simp (maxSteps := 8000000) -implicitDefEqProofs (disch := (refine id_ok ?_; first | assumption | omega | (simp only [go_sem, List.size_toArray, List.length_map, List.length_append, List.length_take, List.length_drop, List.length_cons, List.length_nil, mrLL_app, keyD_i, keyD_s, keyD_b, Nat.reduceAdd, Nat.reduceEqDiff, Nat.reduceLeDiff] <;> omega) | with_unfolding_all rfl | decide)) only [go_sem, Nat.reduceAdd, Nat.reduceSub, Nat.reduceMul, Nat.reduceLeDiff, Nat.reduceEqDiff, Nat.reduceBEq, reduceIte, reduceCtorEq, z1]
    exact finQ_of trivial rfl
end Go.Proofs.Ytbmkioeeolbdnaa.L
