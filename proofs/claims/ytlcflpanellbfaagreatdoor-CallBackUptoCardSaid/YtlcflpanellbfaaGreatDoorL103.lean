/- cats.Sort of few names: one answer, and the table that holds it. -/
import Derived.Test.YtlcflpanellbfaaGreatDoorL102
import Derived.Test.YtlcflpanellbfaaGreatDoorM25
set_option linter.all false
set_option maxRecDepth 100000
namespace Go.Proofs.YtlcflpanellbfaaGreatDoor.L
open Go.Proofs.YtlcflpanellbfaaGreatDoor.M Go.Proofs.YtlcflpanellbfaaGreatDoor.F Go.Proofs Go.RowKit

def c_Sort : CFn := ⟨11, .seq (.region [⟨some 2, .take (.con (.sl .ex [])), none⟩])
  (.seq (.region [⟨some 4, .take (.tmp 0), none⟩,
    ⟨some 5, .call 48 [(.tmp 4)], none⟩,
    ⟨some 6, .call 104 [(.tmp 5), (.con (.fn (.func 105) [] []))], none⟩,
    ⟨some 3, .take (.tmp 6), none⟩])
  (.seq (.region [⟨some 7, .mov (.tmp 3), none⟩,
    ⟨some 8, .call 106 [(.tmp 7), (.con (.fn (.func 103) [] []))], none⟩])
  (.seq (.region [⟨some 9, .take (.tmp 3), none⟩,
    ⟨some 10, .call 107 [(.tmp 9)], none⟩,
    ⟨some 2, .take (.tmp 10), none⟩])
  (.ret)))),
  [.tmp 2]⟩
theorem is_Sort : IsFn Tryz.prog 97 c_Sort := isFn_of [([], [0]), ([], [0, 3]), ([], []), ([], [0, 2]), ([], [])] (by kernel_rfl)
def encT (s : List UInt8) : List AV := [.str ⟨s.toArray⟩]
def mkS (s : List UInt8) : ByteArray := ⟨s.toArray⟩
theorem Sx_mk (L : List (List UInt8)) : Sx L = .cells ((L.map mkS).map sAV) := by
  unfold Sx; rw [List.map_map]; rfl
theorem encT_mk (L : List (List UInt8)) : L.map encT = (L.map mkS).map encS := by rw [List.map_map]; rfl
theorem ow_ne {L : List (List UInt8)} (h : L ≠ []) : ow (L.map encT) = .sl .own (L.map encT) := by
  cases L with
  | nil => exact absurd rfl h
  | cons c r => rfl
theorem szOK_S : ∀ L : List (List UInt8), szOK 1 (L.map encT) = true
  | [] => rfl
  | c :: r => rfl
theorem mr_S : ∀ L : List (List UInt8), mrLL (L.map encT) = 0
  | [] => rfl
  | c :: r => by simp only [List.map_cons, mrLL, mr_S r, encT, mrL, AV.mr]; rfl
theorem cloneS_run {L : List (List UInt8)} (h8 : L.length ≤ 8) (h : AH) : run T 48 [.sl .sh (L.map encT)] h = some (ow (L.map encT), h) := by
  rw [run_prim T_48]
  have h1 := szOK_S L
  show (if szOK 1 (L.map encT) = true ∧ _ then _ else _) = _
  rw [if_pos ⟨h1, by simp only [List.length_map]; omega, by simp only [List.length_map]; omega⟩]
theorem clone_call {L : List (List UInt8)} (h0 : L ≠ []) (h8 : L.length ≤ 8) : CallW Tryz.prog 48 [.sl .sh (L.map encT)] [] (fun r h' => r = .bs 0 0 L.length none ∧ h' = [Sx L]) := by
  have h1 := cloneS_run h8 []
  rw [ow_ne h0, encT_mk] at h1
  have := CallW_boxS (h := []) (l := L.map mkS) (by simpa using h0) (by rw [← encT_mk]; simp only [mrL, AV.mr, mr_S]; rfl) (run_sound okT h1 (K := fun r h' => h' = [] ∧ r = .sl .own ((L.map mkS).map encS)) ⟨rfl, rfl⟩)
  rw [Sx_mk, encT_mk]
  simpa only [List.length_map, List.length_nil, List.nil_append] using this
theorem foldV_len : ∀ (l acc : List (List UInt8)), (l.foldl (fun a x => insV ltC x a) acc).length = l.length + acc.length
  | [], acc => by simp
  | x :: l, acc => by rw [List.foldl_cons, foldV_len l, insV_len]; simp only [List.length_cons]; omega
theorem srtV_len (l : List (List UInt8)) : (srtV ltC l).length = l.length := by unfold srtV; rw [List.length_reverse, foldV_len]; rfl
def srtC (L : List (List UInt8)) : List (List UInt8) := cmpt (srtV ltC (L.filter rigC))
def srtK (L : List (List UInt8)) (r : AV) (h' : AH) : Prop := r = .bs 0 0 (srtC L).length none ∧ ∃ pad : List ByteArray, h' = [.cells ((((srtC L).map mkS) ++ pad).map sAV)]
def srtQ (L : List (List UInt8)) (e : Ex) (σ : List AV) (h : AH) : Prop := e.fin ∧ ∃ vs, retV h c_Sort.res σ = some vs ∧ srtK L (oneOf vs) h
theorem srtQ_of {L : List (List UInt8)} {e : Ex} {σ : List AV} {h : AH} {pad : List (List UInt8)} (he : e.fin) (h1 : retV h c_Sort.res σ = some [.bs 0 0 (srtC L).length none]) (h2 : h = [Sx (srtC L ++ pad)]) : srtQ L e σ h :=
  ⟨he, _, h1, rfl, pad.map mkS, by rw [h2, Sx_mk, List.map_append]⟩
theorem sort_call {L : List (List UInt8)} (h0 : L ≠ []) (h8 : L.length ≤ 8) (hs : shS L) : CallW Tryz.prog 97 [.sl .sh (L.map encT)] [] (srtK L) := by
  refine call_of_body is_Sort ?_ ⟨_, _, rfl, [], rfl⟩
  show M.W Tryz.prog c_Sort.body _ [] (srtQ L)
  have hc := clone_call h0 h8
  obtain ⟨p1, h1⟩ := delF_run h8 hs
  have hfl : (L.filter rigC).length ≤ L.length := List.length_filter_le ..
  have hsf : shS (L.filter rigC) := fun s hq => hs s (List.mem_filter.1 hq).1
  have h2 := sortF_run (n := (L.filter rigC).length) (l := L.filter rigC) (pad := p1) rfl (by omega) hsf
  obtain ⟨p2, h3⟩ := cpt_run (l := srtV ltC (L.filter rigC)) (pad := p1) (n := (L.filter rigC).length) (by rw [srtV_len]) (by omega)
  refine W_pre okT ?_
  simp (maxSteps := 8000000) -implicitDefEqProofs (disch := (refine id_ok ?_; first | assumption | omega | (simp only [go_sem, List.size_toArray, List.length_map, List.length_append, List.length_take, List.length_drop, List.length_cons, List.length_nil, mrLL_app, keyD_i, keyD_s, keyD_b, Nat.reduceAdd, Nat.reduceEqDiff, Nat.reduceLeDiff] <;> omega) | with_unfolding_all rfl | decide)) only [go_sem, Nat.reduceAdd, Nat.reduceSub, Nat.reduceMul, Nat.reduceLeDiff, Nat.reduceEqDiff, Nat.reduceBEq, reduceIte, reduceCtorEq, c_Sort]
  refine W_call2 okT (l := [⟨some 4, .take (.tmp 0), none⟩]) (r := [⟨some 6, .call 104 [(.tmp 5), (.con (.fn (.func 105) [] []))], none⟩, ⟨some 3, .take (.tmp 6), none⟩]) (d := 5) (f := 48) (xs := [.tmp 4]) ?_
  simp (maxSteps := 8000000) -implicitDefEqProofs (disch := (refine id_ok ?_; first | assumption | omega | (simp only [go_sem, List.size_toArray, List.length_map, List.length_append, List.length_take, List.length_drop, List.length_cons, List.length_nil, mrLL_app, keyD_i, keyD_s, keyD_b, Nat.reduceAdd, Nat.reduceEqDiff, Nat.reduceLeDiff] <;> omega) | with_unfolding_all rfl | decide)) only [go_sem, Nat.reduceAdd, Nat.reduceSub, Nat.reduceMul, Nat.reduceLeDiff, Nat.reduceEqDiff, Nat.reduceBEq, reduceIte, reduceCtorEq]
  refine hc.mono ?_
  rintro v h' ⟨rfl, rfl⟩
  simp only [fnD] at h1
  simp only [fnC] at h2
  simp (maxSteps := 8000000) -implicitDefEqProofs (disch := (refine id_ok ?_; first | assumption | omega | (simp only [go_sem, List.size_toArray, List.length_map, List.length_append, List.length_take, List.length_drop, List.length_cons, List.length_nil, mrLL_app, keyD_i, keyD_s, keyD_b, Nat.reduceAdd, Nat.reduceEqDiff, Nat.reduceLeDiff] <;> omega) | with_unfolding_all rfl | decide)) only [go_sem, Nat.reduceAdd, Nat.reduceSub, Nat.reduceMul, Nat.reduceLeDiff, Nat.reduceEqDiff, Nat.reduceBEq, reduceIte, reduceCtorEq, h1]
  refine dv_sound okT _ _ _ _ _ (fun _ _ _ z => z) ?_
  simp (maxSteps := 8000000) -implicitDefEqProofs (disch := (refine id_ok ?_; first | assumption | omega | (simp only [go_sem, List.size_toArray, List.length_map, List.length_append, List.length_take, List.length_drop, List.length_cons, List.length_nil, mrLL_app, keyD_i, keyD_s, keyD_b, Nat.reduceAdd, Nat.reduceEqDiff, Nat.reduceLeDiff] <;> omega) | with_unfolding_all rfl | decide)) only [go_sem, Nat.reduceAdd, Nat.reduceSub, Nat.reduceMul, Nat.reduceLeDiff, Nat.reduceEqDiff, Nat.reduceBEq, reduceIte, reduceCtorEq, h2, h3]
  exact srtQ_of trivial rfl rfl
theorem okS : ∀ f d, (T.put 97 (.code c_Sort)) f = some d → OkDef Tryz.prog f d := Tbl.put_ok okT (d := .code c_Sort) is_Sort
theorem sort0_run : run (T.put 97 (.code c_Sort)) 97 [.sl .sh []] [] = some (.sl .sh [], []) := run_of (n := 300) (by kernel_rfl)
/-! ### the function as one answer -/
def decS : List (List AV) → Option (List (List UInt8))
  | [] => some []
  | [.str s] :: r => if s.size ≤ 281474976710656 then (decS r).map (s.data.toList :: ·) else none
  | _ => none
theorem decS_enc : ∀ {L : List (List UInt8)}, shS L → decS (L.map encT) = some L
  | [], _ => rfl
  | s :: r, h => by
    show (if (⟨s.toArray⟩ : ByteArray).size ≤ 281474976710656 then (decS (r.map encT)).map (s :: ·) else none) = _
    rw [if_pos (show (⟨s.toArray⟩ : ByteArray).size ≤ 281474976710656 from h s (by simp))]
    have := decS_enc (L := r) fun x hx => h x (by simp [hx])
    rw [this]; rfl
theorem decS_of : ∀ {es : List (List AV)} {L : List (List UInt8)}, decS es = some L → es = L.map encT ∧ shS L
  | [], L, h => by simp only [decS, Option.some.injEq] at h; subst h; exact ⟨rfl, fun s hs => by cases hs⟩
  | e :: r, L, h => by
    unfold decS at h
    split at h
    · rename_i h0; cases h0
    · rename_i s r' h0
      cases h0
      split at h <;> try (cases h; done)
      rename_i hs
      simp only [Option.map_eq_some_iff] at h
      obtain ⟨L', h1, rfl⟩ := h
      obtain ⟨rfl, h2⟩ := decS_of h1
      refine ⟨rfl, fun x hx => ?_⟩
      rcases List.mem_cons.1 hx with rfl | hx
      · exact hs
      · exact h2 x hx
    · cases h
def srtR (L : List (List UInt8)) : AV := .sl .sh ((srtC L).map encT)
def sortP : List AV → AH → Option (AV × AH)
  | [.sl _ es], h => if es.length ≤ 8 then (decS es).map fun L => (srtR L, h) else none
  | _, _ => none
theorem sort_all {L : List (List UInt8)} (h8 : L.length ≤ 8) (hs : shS L) : CallW Tryz.prog 97 [.sl .sh (L.map encT)] [] (fun r h' => h' = [] ∧ r = srtR L) := by
  unfold srtR
  by_cases h0 : L = []
  · subst h0
    exact run_sound okS sort0_run ⟨rfl, rfl⟩
  · rw [encT_mk (srtC L)]
    refine CallW_unboxS ((sort_call h0 h8 hs).mono ?_)
    rintro r h' ⟨h1, h2⟩
    exact ⟨by rw [h1, List.length_map], h2⟩
theorem CallW_sh {P : Program} {f : FuncId} {m : Md} {es : List (List AV)} {h : AH} {K : AV → AH → Prop} (hc : CallW P f [.sl .sh es] h K) : CallW P f [.sl m es] h K := by
  obtain ⟨h1, h2, h3⟩ := hc
  refine ⟨h1, fun w0 g n w vs hv hcl hi => ?_, h3⟩
  have hv' : VL g [.sl .sh es] vs := by
    have := VL.sh _ _ hv
    simpa only [shL, AV.sh] using this
  exact h2 w0 g n w vs hv' rfl hi
theorem sort_ok : OkDef Tryz.prog 97 (.prim sortP) := by
  intro args h r h' hp K hK
  unfold sortP at hp
  split at hp <;> try (cases hp; done)
  rename_i m es
  split at hp <;> try (cases hp; done)
  rename_i h8
  simp only [Option.map_eq_some_iff] at hp
  obtain ⟨L, h1, h2⟩ := hp
  obtain ⟨rfl, hs⟩ := decS_of h1
  cases h2
  refine CallW_sh (CallW_pure (by simp only [mrL, AV.mr, mr_S]; rfl) ((sort_all (by simpa using h8) hs).mono ?_))
  rintro r h' ⟨rfl, rfl⟩
  exact ⟨rfl, hK⟩
end Go.Proofs.YtlcflpanellbfaaGreatDoor.L
namespace Go.Proofs.YtlcflpanellbfaaGreatDoor.F
open Go.Proofs.YtlcflpanellbfaaGreatDoor.M Go.Proofs.YtlcflpanellbfaaGreatDoor.L Go.Proofs
/-- The table with cats.Sort. -/
noncomputable def U : Tbl := T.put 97 (.prim sortP)
theorem okU : ∀ f d, U f = some d → OkDef Tryz.prog f d := Tbl.put_ok okT sort_ok
theorem tleU : Tle T U := Tle.put rfl
theorem upU {f : FuncId} {args : List AV} {h : AH} {r : AV × AH} (hx : run T f args h = some r) : run U f args h = some r := tle_run tleU hx
end Go.Proofs.YtlcflpanellbfaaGreatDoor.F
namespace Go.Proofs.YtlcflpanellbfaaGreatDoor.L
open Go.Proofs.YtlcflpanellbfaaGreatDoor.M Go.Proofs.YtlcflpanellbfaaGreatDoor.F Go.Proofs
theorem sort_runU {m : Md} {L : List (List UInt8)} {h : AH} (h8 : L.length ≤ 8) (hs : shS L) : run U 97 [.sl m (L.map encT)] h = some (srtR L, h) := by
  rw [run_prim (show U 97 = some (.prim sortP) from rfl)]
  show (if (L.map encT).length ≤ 8 then (decS (L.map encT)).map fun L => (srtR L, h) else none) = _
  rw [if_pos (by simpa using h8), decS_enc hs]; rfl
end Go.Proofs.YtlcflpanellbfaaGreatDoor.L
