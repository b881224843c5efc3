/- cats.Sort of few names: one answer, and the table that holds it. -/
import Derived.Test.YtibchilpaaiecaaGreatDoorL100
import Derived.Test.YtibchilpaaiecaaGreatDoorM25
import Derived.Test.YtibchilpaaiecaaGreatDoorL39
set_option linter.all false
set_option maxRecDepth 100000
namespace Go.Proofs.YtibchilpaaiecaaGreatDoor.L
open Go.Proofs.YtibchilpaaiecaaGreatDoor.M Go.Proofs.YtibchilpaaiecaaGreatDoor.F Go.Proofs Go.RowKit
def c_Sort : CFn := ⟨11, .seq (.region [⟨some 2, .take (.con (.sl .ex [])), none⟩])
  (.seq (.region [⟨some 4, .take (.tmp 0), none⟩,
    ⟨some 5, .call 79 [(.tmp 4)], none⟩,
    ⟨some 6, .call 128 [(.tmp 5), (.con (.fn (.func 129) [] []))], none⟩,
    ⟨some 3, .take (.tmp 6), none⟩])
  (.seq (.region [⟨some 7, .mov (.tmp 3), none⟩,
    ⟨some 8, .call 130 [(.tmp 7), (.con (.fn (.func 126) [] []))], none⟩])
  (.seq (.region [⟨some 9, .take (.tmp 3), none⟩,
    ⟨some 10, .call 131 [(.tmp 9)], none⟩,
    ⟨some 2, .take (.tmp 10), none⟩])
  (.ret)))),
  [.tmp 2]⟩
theorem is_Sort : IsFn Tryz.prog 100 c_Sort := isFn_of [([], [0]), ([], [0, 3]), ([], []), ([], [0, 2]), ([], [])] (by kernel_rfl)
def encT (s : List UInt8) : List AV := [.str ⟨s.toArray⟩]
def mkS (s : List UInt8) : ByteArray := ⟨s.toArray⟩
theorem Sx_mk (L : List (List UInt8)) : Sx L = .cells ((L.map mkS).map sAV) := by
  unfold Sx; rw [List.map_map]; rfl
theorem encT_mk (L : List (List UInt8)) : L.map encT = (L.map mkS).map encS := by rw [List.map_map]; rfl
theorem ow_ne {L : List (List UInt8)} (h : L ≠ []) : ow (L.map encT) = .sl .own (L.map encT) := by
  cases L with
  | nil => exact absurd rfl h
  | cons c r => rfl
theorem szOK_S : ∀ L : List (List UInt8), szOK 1 (L.map encT) = true
  | [] => rfl
  | c :: r => rfl
theorem mr_S : ∀ L : List (List UInt8), mrLL (L.map encT) = 0
  | [] => rfl
  | c :: r => by simp only [List.map_cons, mrLL, mr_S r, encT, mrL, AV.mr]; rfl
theorem cloneS_run {L : List (List UInt8)} (h8 : L.length ≤ 8) (h : AH) : run T 79 [.sl .sh (L.map encT)] h = some (ow (L.map encT), h) := by
  rw [run_prim T_79]
  have h1 := szOK_S L
  show (if szOK 1 (L.map encT) = true ∧ _ then _ else _) = _
  rw [if_pos ⟨h1, by simp only [List.length_map]; omega, by simp only [List.length_map]; omega⟩]
theorem clone_call {L : List (List UInt8)} (h0 : L ≠ []) (h8 : L.length ≤ 8) : CallW Tryz.prog 79 [.sl .sh (L.map encT)] [] (fun r h' => r = .bs 0 0 L.length none ∧ h' = [Sx L]) := by
  have h1 := cloneS_run h8 []
  rw [ow_ne h0, encT_mk] at h1
  have := CallW_boxS (h := []) (l := L.map mkS) (by simpa using h0) (by rw [← encT_mk]; simp only [mrL, AV.mr, mr_S]; rfl) (run_sound okT h1 (K := fun r h' => h' = [] ∧ r = .sl .own ((L.map mkS).map encS)) ⟨rfl, rfl⟩)
  rw [Sx_mk, encT_mk]
  simpa only [List.length_map, List.length_nil, List.nil_append] using this
theorem foldV_len : ∀ (l acc : List (List UInt8)), (l.foldl (fun a x => insV ltC x a) acc).length = l.length + acc.length
  | [], acc => by simp
  | x :: l, acc => by rw [List.foldl_cons, foldV_len l, insV_len]; simp only [List.length_cons]; omega
theorem srtV_len (l : List (List UInt8)) : (srtV ltC l).length = l.length := by unfold srtV; rw [List.length_reverse, foldV_len]; rfl
def srtC (L : List (List UInt8)) : List (List UInt8) := cmpt (srtV ltC (L.filter rigC))
def srtK (L : List (List UInt8)) (r : AV) (h' : AH) : Prop := r = .bs 0 0 (srtC L).length none ∧ ∃ pad : List ByteArray, h' = [.cells ((((srtC L).map mkS) ++ pad).map sAV)]
def srtQ (L : List (List UInt8)) (e : Ex) (σ : List AV) (h : AH) : Prop := e.fin ∧ ∃ vs, retV h c_Sort.res σ = some vs ∧ srtK L (oneOf vs) h
theorem srtQ_of {L : List (List UInt8)} {e : Ex} {σ : List AV} {h : AH} {pad : List (List UInt8)} (he : e.fin) (h1 : retV h c_Sort.res σ = some [.bs 0 0 (srtC L).length none]) (h2 : h = [Sx (srtC L ++ pad)]) : srtQ L e σ h :=
  ⟨he, _, h1, rfl, pad.map mkS, by rw [h2, Sx_mk, List.map_append]⟩
theorem sort_call {L : List (List UInt8)} (h0 : L ≠ []) (h8 : L.length ≤ 8) (hs : shS L) : CallW Tryz.prog 100 [.sl .sh (L.map encT)] [] (srtK L) := by
  refine call_of_body is_Sort ?_ ⟨_, _, rfl, [], rfl⟩
  show M.W Tryz.prog c_Sort.body _ [] (srtQ L)
  have hc := clone_call h0 h8
  obtain ⟨p1, h1⟩ := delF_run h8 hs
  have hfl : (L.filter rigC).length ≤ L.length := List.length_filter_le ..
  have hsf : shS (L.filter rigC) := fun s hq => hs s (List.mem_filter.1 hq).1
  have h2 := sortF_run (n := (L.filter rigC).length) (l := L.filter rigC) (pad := p1) rfl (by omega) hsf
  obtain ⟨p2, h3⟩ := cpt_run (l := srtV ltC (L.filter rigC)) (pad := p1) (n := (L.filter rigC).length) (by rw [srtV_len]) (by omega)
  refine W_pre okT ?_
  simp (maxSteps := 8000000) -implicitDefEqProofs (disch := (refine id_ok ?_; first | assumption | omega | (simp [go_sem] <;> omega) | with_unfolding_all rfl | decide)) only [go_sem, Nat.reduceAdd, Nat.reduceSub, Nat.reduceMul, Nat.reduceLeDiff, Nat.reduceEqDiff, Nat.reduceBEq, reduceIte, reduceCtorEq, c_Sort]
  refine W_call2 okT (l := [⟨some 4, .take (.tmp 0), none⟩]) (r := [⟨some 6, .call 128 [(.tmp 5), (.con (.fn (.func 129) [] []))], none⟩, ⟨some 3, .take (.tmp 6), none⟩]) (d := 5) (f := 79) (xs := [.tmp 4]) ?_
  simp (maxSteps := 8000000) -implicitDefEqProofs (disch := (refine id_ok ?_; first | assumption | omega | (simp [go_sem] <;> omega) | with_unfolding_all rfl | decide)) only [go_sem, Nat.reduceAdd, Nat.reduceSub, Nat.reduceMul, Nat.reduceLeDiff, Nat.reduceEqDiff, Nat.reduceBEq, reduceIte, reduceCtorEq]
  refine hc.mono ?_
  rintro v h' ⟨rfl, rfl⟩
  simp only [fnD] at h1
  simp only [fnC] at h2
  simp (maxSteps := 8000000) -implicitDefEqProofs (disch := (refine id_ok ?_; first | assumption | omega | (simp [go_sem] <;> omega) | with_unfolding_all rfl | decide)) only [go_sem, Nat.reduceAdd, Nat.reduceSub, Nat.reduceMul, Nat.reduceLeDiff, Nat.reduceEqDiff, Nat.reduceBEq, reduceIte, reduceCtorEq, h1]
  refine dv_sound okT _ _ _ _ _ (fun _ _ _ z => z) ?_
  simp (maxSteps := 8000000) -implicitDefEqProofs (disch := (refine id_ok ?_; first | assumption | omega | (simp [go_sem] <;> omega) | with_unfolding_all rfl | decide)) only [go_sem, Nat.reduceAdd, Nat.reduceSub, Nat.reduceMul, Nat.reduceLeDiff, Nat.reduceEqDiff, Nat.reduceBEq, reduceIte, reduceCtorEq, h2, h3]
  exact srtQ_of trivial rfl rfl
theorem okS : ∀ f d, (T.put 100 (.code c_Sort)) f = some d → OkDef Tryz.prog f d := Tbl.put_ok okT (d := .code c_Sort) is_Sort
theorem sort0_run : run (T.put 100 (.code c_Sort)) 100 [.sl .sh []] [] = some (.sl .sh [], []) := run_of (n := 300) (by kernel_rfl)
def decS : List (List AV) → Option (List (List UInt8))
  | [] => some []
  | [.str s] :: r => if s.size ≤ 281474976710656 then (decS r).map (s.data.toList :: ·) else none
  | _ => none
theorem decS_enc : ∀ {L : List (List UInt8)}, shS L → decS (L.map encT) = some L
  | [], _ => rfl
  | s :: r, h => by
    show (if (⟨s.toArray⟩ : ByteArray).size ≤ 281474976710656 then (decS (r.map encT)).map (s :: ·) else none) = _
    rw [if_pos (show (⟨s.toArray⟩ : ByteArray).size ≤ 281474976710656 from h s (by simp))]
    have := decS_enc (L := r) fun x hx => h x (by simp [hx])
    rw [this]; rfl
theorem decS_of : ∀ {es : List (List AV)} {L : List (List UInt8)}, decS es = some L → es = L.map encT ∧ shS L
  | [], L, h => by simp only [decS, Option.some.injEq] at h; subst h; exact ⟨rfl, fun s hs => by cases hs⟩
  | e :: r, L, h => by
    unfold decS at h
    split at h
    · rename_i h0; cases h0
    · rename_i s r' h0
      cases h0
      split at h <;> try (cases h; done)
      rename_i hs
      simp only [Option.map_eq_some_iff] at h
      obtain ⟨L', h1, rfl⟩ := h
      obtain ⟨rfl, h2⟩ := decS_of h1
      refine ⟨rfl, fun x hx => ?_⟩
      rcases List.mem_cons.1 hx with rfl | hx
      · exact hs
      · exact h2 x hx
    · cases h
def srtR (L : List (List UInt8)) : AV := .sl .sh ((srtC L).map encT)
def sortP : List AV → AH → Option (AV × AH)
  | [.sl _ es], h => if es.length ≤ 8 then (decS es).map fun L => (srtR L, h) else none
  | _, _ => none
theorem sort_all {L : List (List UInt8)} (h8 : L.length ≤ 8) (hs : shS L) : CallW Tryz.prog 100 [.sl .sh (L.map encT)] [] (fun r h' => h' = [] ∧ r = srtR L) := by
  unfold srtR
  by_cases h0 : L = []
  · subst h0
    exact run_sound okS sort0_run ⟨rfl, rfl⟩
  · rw [encT_mk (srtC L)]
    refine CallW_unboxS ((sort_call h0 h8 hs).mono ?_)
    rintro r h' ⟨h1, h2⟩
    exact ⟨by rw [h1, List.length_map], h2⟩
theorem CallW_sh {P : Program} {f : FuncId} {m : Md} {es : List (List AV)} {h : AH} {K : AV → AH → Prop} (hc : CallW P f [.sl .sh es] h K) : CallW P f [.sl m es] h K := by
  obtain ⟨h1, h2, h3⟩ := hc
  refine ⟨h1, fun w0 g n w vs hv hcl hi => ?_, h3⟩
  have hv' : VL g [.sl .sh es] vs := by
    have := VL.sh _ _ hv
    simpa only [shL, AV.sh] using this
  exact h2 w0 g n w vs hv' rfl hi
theorem sort_ok : OkDef Tryz.prog 100 (.prim sortP) := by
  intro args h r h' hp K hK
  unfold sortP at hp
  split at hp <;> try (cases hp; done)
  rename_i m es
  split at hp <;> try (cases hp; done)
  rename_i h8
  simp only [Option.map_eq_some_iff] at hp
  obtain ⟨L, h1, h2⟩ := hp
  obtain ⟨rfl, hs⟩ := decS_of h1
  cases h2
  refine CallW_sh (CallW_pure (by simp only [mrL, AV.mr, mr_S]; rfl) ((sort_all (by simpa using h8) hs).mono ?_))
  rintro r h' ⟨rfl, rfl⟩
  exact ⟨rfl, hK⟩
end Go.Proofs.YtibchilpaaiecaaGreatDoor.L
namespace Go.Proofs.YtibchilpaaiecaaGreatDoor.F
open Go.Proofs.YtibchilpaaiecaaGreatDoor.M Go.Proofs.YtibchilpaaiecaaGreatDoor.L Go.Proofs
noncomputable def U : Tbl := T.put 100 (.prim sortP)
theorem okU : ∀ f d, U f = some d → OkDef Tryz.prog f d := Tbl.put_ok okT sort_ok
theorem tleU : Tle T U := Tle.put rfl
theorem upU {f : FuncId} {args : List AV} {h : AH} {r : AV × AH} (hx : run T f args h = some r) : run U f args h = some r := tle_run tleU hx
end Go.Proofs.YtibchilpaaiecaaGreatDoor.F
namespace Go.Proofs.YtibchilpaaiecaaGreatDoor.L
open Go.Proofs.YtibchilpaaiecaaGreatDoor.M Go.Proofs.YtibchilpaaiecaaGreatDoor.F Go.Proofs
theorem sort_runU {m : Md} {L : List (List UInt8)} {h : AH} (h8 : L.length ≤ 8) (hs : shS L) : run U 100 [.sl m (L.map encT)] h = some (srtR L, h) := by
  rw [run_prim (show U 100 = some (.prim sortP) from rfl)]
  show (if (L.map encT).length ≤ 8 then (decS (L.map encT)).map fun L => (srtR L, h) else none) = _
  rw [if_pos (by simpa using h8), decS_enc hs]; rfl
end Go.Proofs.YtibchilpaaiecaaGreatDoor.L
/- Ownerships: right, put, read; a tape's flags and what is left of it. -/
set_option linter.all false
set_option maxRecDepth 100000
namespace Go.Proofs.YtibchilpaaiecaaGreatDoor.L
open Go.Proofs.YtibchilpaaiecaaGreatDoor.M Go.Proofs.YtibchilpaaiecaaGreatDoor.F Go.Proofs
theorem mrLL_T : ∀ {p : List (List UInt8)}, mrLL (p.map encT) = 0 := fun {p} => mr_S p
theorem szOK_T {p : List (List UInt8)} : szOK 1 (p.map encT) = true := szOK_S p
attribute [go_sem] mrLL_T szOK_T
def numF (b : Bool) : List UInt8 := num (if b = true then 1 else 0)
theorem eqS_loop {a b : List (List UInt8)} {h : AH} (hl : a.length = b.length) (hs : a.length ≤ 1000000000) : ∀ (d i : Nat), d + i = a.length →
    (decide (a.drop i = b.drop i) = true ∧ den T (.loop l_slices_Equal_string_string_0) (s_slices_Equal_string_string_0 (.sl .sh (a.map encT)) (.sl .sh (b.map encT)) (.int .i64 a.length) (.int .i64 i)) h = some (.exit 0, x_slices_Equal_string_string_0, h)) ∨
    (decide (a.drop i = b.drop i) = false ∧ ∃ σ, den T (.loop l_slices_Equal_string_string_0) (s_slices_Equal_string_string_0 (.sl .sh (a.map encT)) (.sl .sh (b.map encT)) (.int .i64 a.length) (.int .i64 i)) h = some (.ret, σ, h) ∧ σ.getD 4 undefA = .bool false) := by
  intro d
  induction d with
  | zero =>
    intro i hd
    have hd' : decide ((i : Int) < a.length) = false := decide_eq_false (by omega)
    refine .inl ⟨by rw [List.drop_eq_nil_of_le (by omega), List.drop_eq_nil_of_le (by omega)]; rfl, ?_⟩
    rw [lp_round]
    simp -implicitDefEqProofs (disch := (refine id_ok ?_; first | assumption | omega | (simp [go_sem] <;> omega) | with_unfolding_all rfl | decide)) only [go_sem, Nat.reduceAdd, Nat.reduceSub, Nat.reduceMul, Nat.reduceLeDiff, Nat.reduceEqDiff, Nat.reduceBEq, reduceIte, reduceCtorEq, hd']
  | succ d ih =>
    intro i hd
    have hia : i < a.length := by omega
    have hib : i < b.length := by omega
    have hd' : decide ((i : Int) < a.length) = true := decide_eq_true (by omega)
    have ga : (a.map encT)[(i : Int).toNat]? = some (encT a[i]) := by simp [hia]
    have gb : (b.map encT)[(i : Int).toNat]? = some (encT b[i]) := by simp [hib]
    have e7 := incP (n := i) (by omega)
    have ih' := ih (i + 1) (by omega)
    have hdr := drop_decI hia hib
    generalize a[i] = x at *
    generalize b[i] = y at *
    rw [hdr]
    simp only [encT] at ga gb
    by_cases hxy : x = y
    · have hx : decide (x = y) = true := decide_eq_true hxy
      have hq : (x == y) = true := by simp [hxy]
      have hstep : den T (.loop l_slices_Equal_string_string_0) (s_slices_Equal_string_string_0 (.sl .sh (a.map encT)) (.sl .sh (b.map encT)) (.int .i64 a.length) (.int .i64 i)) h = den T (.loop l_slices_Equal_string_string_0) (s_slices_Equal_string_string_0 (.sl .sh (a.map encT)) (.sl .sh (b.map encT)) (.int .i64 a.length) (.int .i64 (i + 1 : Nat))) h := by
        rw [lp_round]
        simp (maxSteps := 2000000) -implicitDefEqProofs (disch := (refine id_ok ?_; first | assumption | omega | (simp [go_sem] <;> omega) | with_unfolding_all rfl | decide)) only [go_sem, Nat.reduceAdd, Nat.reduceSub, Nat.reduceMul, Nat.reduceLeDiff, Nat.reduceEqDiff, Nat.reduceBEq, reduceIte, reduceCtorEq, hd', ga, gb, hq, Bool.not_true, Bool.not_false, e7]
        try rfl
      rw [hstep, hx, Bool.true_and]
      exact ih'
    · have hx : decide (x = y) = false := decide_eq_false hxy
      have hq : (x == y) = false := by simp [hxy]
      refine .inr ⟨by rw [hx, Bool.false_and], ?_⟩
      rw [lp_round]
      simp (maxSteps := 2000000) -implicitDefEqProofs (disch := (refine id_ok ?_; first | assumption | omega | (simp [go_sem] <;> omega) | with_unfolding_all rfl | decide)) only [go_sem, Nat.reduceAdd, Nat.reduceSub, Nat.reduceMul, Nat.reduceLeDiff, Nat.reduceEqDiff, Nat.reduceBEq, reduceIte, reduceCtorEq, hd', ga, gb, hq, Bool.not_true, Bool.not_false]
      exact ⟨_, rfl, rfl⟩
theorem eqS_run {a b : List (List UInt8)} {h : AH} (ha : a.length ≤ 1000000000) : run T 48 [.sl .sh (a.map encT), .sl .sh (b.map encT)] h = some (.bool (decide (a = b)), h) := by
  rw [run_code T_48]
  by_cases hl : a.length = b.length
  · have hq : ((a.length : Int) != (b.length : Int)) = false := by simp [hl]
    rcases eqS_loop (h := h) hl ha a.length 0 (by omega) with ⟨h1, h2⟩ | ⟨h1, σ, h2, h3⟩
    · simp only [show ((0 : Nat) : Int) = 0 from rfl, List.drop_zero] at h1 h2
      simp (maxSteps := 2000000) -implicitDefEqProofs (disch := (refine id_ok ?_; first | assumption | omega | (simp [go_sem] <;> omega) | with_unfolding_all rfl | decide)) only [go_sem, Nat.reduceAdd, Nat.reduceSub, Nat.reduceMul, Nat.reduceLeDiff, Nat.reduceEqDiff, Nat.reduceBEq, reduceIte, reduceCtorEq, c_slices_Equal_string_string, List.length_map, hq, h2, h1]
    · simp only [show ((0 : Nat) : Int) = 0 from rfl, List.drop_zero] at h1 h2
      simp (maxSteps := 2000000) -implicitDefEqProofs (disch := (refine id_ok ?_; first | assumption | omega | (simp [go_sem] <;> omega) | with_unfolding_all rfl | decide)) only [go_sem, Nat.reduceAdd, Nat.reduceSub, Nat.reduceMul, Nat.reduceLeDiff, Nat.reduceEqDiff, Nat.reduceBEq, reduceIte, reduceCtorEq, c_slices_Equal_string_string, List.length_map, hq, h2, h1, h3]
  · have hq : ((a.length : Int) != (b.length : Int)) = true := by simp; omega
    have hne : decide (a = b) = false := decide_eq_false fun e => hl (by rw [e])
    simp (maxSteps := 2000000) -implicitDefEqProofs (disch := (refine id_ok ?_; first | assumption | omega | (simp [go_sem] <;> omega) | with_unfolding_all rfl | decide)) only [go_sem, Nat.reduceAdd, Nat.reduceSub, Nat.reduceMul, Nat.reduceLeDiff, Nat.reduceEqDiff, Nat.reduceBEq, reduceIte, reduceCtorEq, c_slices_Equal_string_string, List.length_map, hq, hne]
def rigO (l : List (List UInt8)) : Bool := decide (l.length ≤ 8) && decide (srtC l = l)
theorem srtC_rig {l : List (List UInt8)} {s : List UInt8} (h : s ∈ srtC l) : rigC s = true ∧ s ∈ l := by
  have := (srt_mem ltC (l.filter rigC) s).1 (cmpt_mem h)
  exact ⟨(List.mem_filter.1 this).2, (List.mem_filter.1 this).1⟩
theorem rigO_all {l : List (List UInt8)} (h : rigO l = true) : l.length ≤ 8 ∧ ∀ s ∈ l, rigC s = true ∧ s.length ≤ 60 := by
  simp only [rigO, Bool.and_eq_true, decide_eq_true_eq] at h
  refine ⟨h.1, fun s hs => ?_⟩
  have : rigC s = true := (srtC_rig (by rw [h.2]; exact hs)).1
  exact ⟨this, rigC_len this⟩
theorem rigO_run {l : List (List UInt8)} {h : AH} (hs : shS l) : run U 61 [.sl .sh (l.map encT)] h = some (.bool (rigO l), h) := by
  rw [run_code (show U 61 = some (.code c_owns_Right) from rfl)]
  unfold rigO
  by_cases h8 : l.length ≤ 8
  · have e1 : decide ((l.length : Int) ≤ 8) = true := decide_eq_true (by omega)
    have e2 : decide (l.length ≤ 8) = true := decide_eq_true h8
    have h1 := sort_runU (m := .sh) (h := []) h8 hs
    have h2 := upU (eqS_run (a := srtC l) (b := l) (h := []) (by
      have h1 : (srtC l).length ≤ l.length := by
        have a1 : ∀ l : List (List UInt8), (cmpt l).length ≤ l.length := by
          intro l
          induction l with
          | nil => simp [cmpt]
          | cons x r ih =>
            cases r with
            | nil => simp [cmpt]
            | cons y r =>
              simp only [cmpt]
              split
              · exact Nat.le_trans ih (by simp)
              · simp only [List.length_cons] at ih ⊢; omega
        have a2 := a1 (srtV ltC (l.filter rigC))
        rw [srtV_len] at a2
        exact Nat.le_trans a2 (List.length_filter_le ..)
      omega))
    simp only [srtR] at h1
    simp (maxSteps := 2000000) -implicitDefEqProofs (disch := (refine id_ok ?_; first | assumption | omega | (simp [go_sem] <;> omega) | with_unfolding_all rfl | decide)) only [go_sem, Nat.reduceAdd, Nat.reduceSub, Nat.reduceMul, Nat.reduceLeDiff, Nat.reduceEqDiff, Nat.reduceBEq, reduceIte, reduceCtorEq, c_owns_Right, List.length_map, e1, e2, h1, h2]
  · have e1 : decide ((l.length : Int) ≤ 8) = false := decide_eq_false (by omega)
    have e2 : decide (l.length ≤ 8) = false := decide_eq_false h8
    simp (maxSteps := 2000000) -implicitDefEqProofs (disch := (refine id_ok ?_; first | assumption | omega | (simp [go_sem] <;> omega) | with_unfolding_all rfl | decide)) only [go_sem, Nat.reduceAdd, Nat.reduceSub, Nat.reduceMul, Nat.reduceLeDiff, Nat.reduceEqDiff, Nat.reduceBEq, reduceIte, reduceCtorEq, c_owns_Right, List.length_map, e1, e2, Bool.false_and]
def enS1 (c : List UInt8) : List UInt8 := num c.length ++ c
def bytO (l : List (List UInt8)) : List UInt8 := num l.length ++ l.flatMap enS1
def getSs : Nat → TS → List (List UInt8) × TS
  | 0, s => ([], s)
  | k + 1, s => ((tapT 80 s).1 :: (getSs k (tapT 80 s).2).1, (getSs k (tapT 80 s).2).2)
theorem getSs_len : ∀ (k : Nat) (s : TS), (getSs k s).2.1.length ≤ s.1.length ∧ ∀ c ∈ (getSs k s).1, c.length ≤ s.1.length
  | 0, s => ⟨Nat.le_refl _, fun c hc => by simp [getSs] at hc⟩
  | k + 1, s => by
    have l1 := tapT_len 80 s
    have l2 := tapT_str 80 s
    obtain ⟨h1, h2⟩ := getSs_len k (tapT 80 s).2
    refine ⟨by simp only [getSs]; omega, fun c hc => ?_⟩
    simp only [getSs, List.mem_cons] at hc
    rcases hc with rfl | hc
    · exact l2
    · have := h2 c hc; omega
def getO (s : TS) : List (List UInt8) × Int × TS :=
  let q := getSs (tapN 8 s).1 (tapN 8 s).2
  if q.2.2.isSome = false ∧ rigO q.1 = true then (q.1, 0, q.2) else ([], 10, q.2)
theorem getSs_put : ∀ (l : List (List UInt8)) (rest : List UInt8), (∀ s ∈ l, s.length ≤ 60) → getSs l.length (l.flatMap enS1 ++ rest, none) = (l, rest, none)
  | [], rest, _ => rfl
  | c :: l, rest, h => by
    have hc := h c (by simp)
    rw [List.length_cons, List.flatMap_cons, List.append_assoc, getSs]
    have h1 : tapT 80 (enS1 c ++ (l.flatMap enS1 ++ rest), none) = (c, l.flatMap enS1 ++ rest, none) := by
      unfold enS1; rw [List.append_assoc]; exact tapT_txt (by omega) (by omega)
    rw [h1]
    simp only
    rw [getSs_put l rest fun s hs => h s (by simp [hs])]
theorem getO_put {l : List (List UInt8)} (h : rigO l = true) (rest : List UInt8) : getO (bytO l ++ rest, none) = (l, 0, rest, none) := by
  obtain ⟨h8, hc⟩ := rigO_all h
  have h1 : tapN 8 (bytO l ++ rest, none) = (l.length, l.flatMap enS1 ++ rest, none) := by
    unfold bytO; rw [List.append_assoc]; exact tapN_num h8 (by omega)
  unfold getO
  rw [h1]
  simp only
  rw [getSs_put l rest fun s hs => (hc s hs).2]
  simp [h]
end Go.Proofs.YtibchilpaaiecaaGreatDoor.L
