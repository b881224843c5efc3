/- cats.Sort of few names: one answer, and the table that holds it. -/
import Derived.Test.YtibchilpaaiecaaGreatDoorL100
import Derived.Test.YtibchilpaaiecaaGreatDoorM25
import Derived.Test.YtibchilpaaiecaaGreatDoorL39
set_option linter.all false
set_option maxRecDepth 100000
namespace Go.Proofs.YtibchilpaaiecaaGreatDoor.L
open Go.Proofs.YtibchilpaaiecaaGreatDoor.M Go.Proofs.YtibchilpaaiecaaGreatDoor.F Go.Proofs Go.RowKit
def nU : CFn := ⟨11, .seq (.region [⟨some 2, .take (.con (.sl .ex [])), none⟩])
 (.seq (.region [⟨some 4, .take (.tmp 0), none⟩,
  ⟨some 5, .call 79 [(.tmp 4)], none⟩,
  ⟨some 6, .call 128 [(.tmp 5), (.con (.fn (.func 129) [] []))], none⟩,
  ⟨some 3, .take (.tmp 6), none⟩])
 (.seq (.region [⟨some 7, .mov (.tmp 3), none⟩,
  ⟨some 8, .call 130 [(.tmp 7), (.con (.fn (.func 126) [] []))], none⟩])
 (.seq (.region [⟨some 9, .take (.tmp 3), none⟩,
  ⟨some 10, .call 131 [(.tmp 9)], none⟩,
  ⟨some 2, .take (.tmp 10), none⟩])
 (.ret)))),
 [.tmp 2]⟩
theorem BB : IsFn Tryz.prog 100 nU := ah [([], [0]), ([], [0, 3]), ([], []), ([], [0, 2]), ([], [])] (by kernel_rfl)
def encT (s : List UInt8) : List AV := [.str ⟨s.toArray⟩]
def mkS (s : List UInt8) : ByteArray := ⟨s.toArray⟩
theorem Ka (L : List (List UInt8)) : Sx L = .cells ((L.map mkS).map sAV) := by
 unfold Sx; rw [List.map_map]; rfl
theorem pT (L : List (List UInt8)) : L.map encT = (L.map mkS).map encS := by rw [List.map_map]; rfl
theorem Ls {L : List (List UInt8)} (h : L ≠ []) : ow (L.map encT) = .sl .own (L.map encT) := by
 cases L with
 | nil => exact absurd rfl h
 | cons c r => rfl
theorem Fo : ∀ L : List (List UInt8), szOK 1 (L.map encT) = true
 | [] => rfl
 | c :: r => rfl
theorem mr_S : ∀ L : List (List UInt8), mrLL (L.map encT) = 0
 | [] => rfl
 | c :: r => by simp only [List.map_cons, mrLL, mr_S r, encT, mrL, AV.mr]; rfl
theorem yQ {L : List (List UInt8)} (h8 : L.length ≤ 8) (h : AH) : run T 79 [.sl .sh (L.map encT)] h = some (ow (L.map encT), h) := by
 rw [eG T_79]
 have h1 := Fo L
 show (if szOK 1 (L.map encT) = true ∧ _ then _ else _) = _
 rw [if_pos ⟨h1, by simp only [List.length_map]; omega, by simp only [List.length_map]; omega⟩]
theorem yR {L : List (List UInt8)} (h0 : L ≠ []) (h8 : L.length ≤ 8) : eU Tryz.prog 79 [.sl .sh (L.map encT)] [] (fun r h' => r = .bs 0 0 L.length none ∧ h' = [Sx L]) := by
 have h1 := yQ h8 []
 rw [Ls h0, pT] at h1
 have := yM (h := []) (l := L.map mkS) (by simpa using h0) (by rw [← pT]; simp only [mrL, AV.mr, mr_S]; rfl) (ph okT h1 (K := fun r h' => h' = [] ∧ r = .sl .own ((L.map mkS).map encS)) ⟨rfl, rfl⟩)
 rw [Ka, pT]
 simpa only [List.length_map, List.length_nil, List.nil_append] using this
theorem uz : ∀ (l acc : List (List UInt8)), (l.foldl (fun a x => insV ltC x a) acc).length = l.length + acc.length
 | [], acc => by simp
 | x :: l, acc => by rw [List.foldl_cons, uz l, sJ]; simp only [List.length_cons]; omega
theorem xv (l : List (List UInt8)) : (srtV ltC l).length = l.length := by unfold srtV; rw [List.length_reverse, uz]; rfl
def srtC (L : List (List UInt8)) : List (List UInt8) := cmpt (srtV ltC (L.filter rigC))
def srtK (L : List (List UInt8)) (r : AV) (h' : AH) : Prop := r = .bs 0 0 (srtC L).length none ∧ ∃ pad : List ByteArray, h' = [.cells ((((srtC L).map mkS) ++ pad).map sAV)]
def srtQ (L : List (List UInt8)) (e : Ex) (σ : List AV) (h : AH) : Prop := e.fin ∧ ∃ vs, retV h nU.res σ = some vs ∧ srtK L (oneOf vs) h
theorem HI {L : List (List UInt8)} {e : Ex} {σ : List AV} {h : AH} {pad : List (List UInt8)} (he : e.fin) (h1 : retV h nU.res σ = some [.bs 0 0 (srtC L).length none]) (h2 : h = [Sx (srtC L ++ pad)]) : srtQ L e σ h :=
 ⟨he, _, h1, rfl, pad.map mkS, by rw [h2, Ka, List.map_append]⟩
theorem BC {L : List (List UInt8)} (h0 : L ≠ []) (h8 : L.length ≤ 8) (hs : shS L) : eU Tryz.prog 100 [.sl .sh (L.map encT)] [] (srtK L) := by
 refine kc BB ?_ ⟨_, _, rfl, [], rfl⟩
 show M.W Tryz.prog nU.body _ [] (srtQ L)
 have hc := yR h0 h8
 obtain ⟨p1, h1⟩ := DF h8 hs
 have hfl : (L.filter rigC).length ≤ L.length := List.length_filter_le ..
 have hsf : shS (L.filter rigC) := fun s hq => hs s (List.mem_filter.1 hq).1
 have h2 := Br (n := (L.filter rigC).length) (l := L.filter rigC) (pad := p1) rfl (by omega) hsf
 obtain ⟨p2, h3⟩ := Hw (l := srtV ltC (L.filter rigC)) (pad := p1) (n := (L.filter rigC).length) (by rw [xv]) (by omega)
 refine KY okT ?_
 simp (maxSteps := 8000000) -implicitDefEqProofs (disch := (refine ab ?_; first | assumption | omega | (simp [go_sem] <;> omega) | with_unfolding_all rfl | decide)) only [go_sem, Nat.reduceAdd, Nat.reduceSub, reduceIte, reduceCtorEq, nU]
 refine G6 okT (l := [⟨some 4, .take (.tmp 0), none⟩]) (r := [⟨some 6, .call 128 [(.tmp 5), (.con (.fn (.func 129) [] []))], none⟩, ⟨some 3, .take (.tmp 6), none⟩]) (d := 5) (f := 79) (xs := [.tmp 4]) ?_
 simp (maxSteps := 8000000) -implicitDefEqProofs (disch := (refine ab ?_; first | assumption | omega | (simp [go_sem] <;> omega) | with_unfolding_all rfl | decide)) only [go_sem, Nat.reduceAdd, Nat.reduceSub, reduceIte, reduceCtorEq]
 refine hc.mono ?_
 rintro v h' ⟨rfl, rfl⟩
 simp only [fnD] at h1
 simp only [fnC] at h2
 simp (maxSteps := 8000000) -implicitDefEqProofs (disch := (refine ab ?_; first | assumption | omega | (simp [go_sem] <;> omega) | with_unfolding_all rfl | decide)) only [go_sem, Nat.reduceAdd, Nat.reduceSub, reduceIte, reduceCtorEq, h1]
 refine iD okT _ _ _ _ _ (fun _ _ _ z => z) ?_
 simp (maxSteps := 8000000) -implicitDefEqProofs (disch := (refine ab ?_; first | assumption | omega | (simp [go_sem] <;> omega) | with_unfolding_all rfl | decide)) only [go_sem, Nat.reduceAdd, Nat.reduceSub, reduceIte, reduceCtorEq, h2, h3]
 exact HI trivial rfl rfl
theorem okS : ∀ f d, (T.put 100 (.code nU)) f = some d → cW Tryz.prog f d := Tbl.put_ok okT (d := .code nU) BB
theorem BD : run (T.put 100 (.code nU)) 100 [.sl .sh []] [] = some (.sl .sh [], []) := fm (n := 300) (by kernel_rfl)
def decS : List (List AV) → Option (List (List UInt8))
 | [] => some []
 | [.str s] :: r => if s.size ≤ 281474976710656 then (decS r).map (s.data.toList :: ·) else none
 | _ => none
theorem xw : ∀ {L : List (List UInt8)}, shS L → decS (L.map encT) = some L
 | [], _ => rfl
 | s :: r, h => by
  show (if (⟨s.toArray⟩ : ByteArray).size ≤ 281474976710656 then (decS (r.map encT)).map (s :: ·) else none) = _
  rw [if_pos (show (⟨s.toArray⟩ : ByteArray).size ≤ 281474976710656 from h s (by simp))]
  have := xw (L := r) fun x hx => h x (by simp [hx])
  rw [this]; rfl
theorem BE : ∀ {es : List (List AV)} {L : List (List UInt8)}, decS es = some L → es = L.map encT ∧ shS L
 | [], L, h => by simp only [decS, Option.some.injEq] at h; subst h; exact ⟨rfl, fun s hs => by cases hs⟩
 | e :: r, L, h => by
  unfold decS at h
  split at h
  ·rename_i h0; cases h0
  ·rename_i s r' h0
   cases h0
   split at h <;> try (cases h; done)
   rename_i hs
   simp only [Option.map_eq_some_iff] at h
   obtain ⟨L', h1, rfl⟩ := h
   obtain ⟨rfl, h2⟩ := BE h1
   refine ⟨rfl, fun x hx => ?_⟩
   rcases List.mem_cons.1 hx with rfl | hx
   ·exact hs
   ·exact h2 x hx
  ·cases h
def srtR (L : List (List UInt8)) : AV := .sl .sh ((srtC L).map encT)
def DL : List AV → AH → Option (AV × AH)
 | [.sl _ es], h => if es.length ≤ 8 then (decS es).map fun L => (srtR L, h) else none
 | _, _ => none
theorem DM {L : List (List UInt8)} (h8 : L.length ≤ 8) (hs : shS L) : eU Tryz.prog 100 [.sl .sh (L.map encT)] [] (fun r h' => h' = [] ∧ r = srtR L) := by
 unfold srtR
 by_cases h0 : L = []
 ·subst h0
  exact ph okS BD ⟨rfl, rfl⟩
 ·rw [pT (srtC L)]
  refine ub ((BC h0 h8 hs).mono ?_)
  rintro r h' ⟨h1, h2⟩
  exact ⟨by rw [h1, List.length_map], h2⟩
theorem DN {P : Program} {f : FuncId} {m : Md} {es : List (List AV)} {h : AH} {K : AV → AH → Prop} (hc : eU P f [.sl .sh es] h K) : eU P f [.sl m es] h K := by
 obtain ⟨h1, h2, h3⟩ := hc
 refine ⟨h1, fun w0 g n w vs hv hcl hi => ?_, h3⟩
 have hv' : VL g [.sl .sh es] vs := by
  have := VL.sh _ _ hv
  simpa only [shL, AV.sh] using this
 exact h2 w0 g n w vs hv' rfl hi
theorem HJ : cW Tryz.prog 100 (.prim DL) := by
 intro args h r h' hp K hK
 unfold DL at hp
 split at hp <;> try (cases hp; done)
 rename_i m es
 split at hp <;> try (cases hp; done)
 rename_i h8
 simp only [Option.map_eq_some_iff] at hp
 obtain ⟨L, h1, h2⟩ := hp
 obtain ⟨rfl, hs⟩ := BE h1
 cases h2
 refine DN (qL (by simp only [mrL, AV.mr, mr_S]; rfl) ((DM (by simpa using h8) hs).mono ?_))
 rintro r h' ⟨rfl, rfl⟩
 exact ⟨rfl, hK⟩
end Go.Proofs.YtibchilpaaiecaaGreatDoor.L
namespace Go.Proofs.YtibchilpaaiecaaGreatDoor.F
open Go.Proofs.YtibchilpaaiecaaGreatDoor.M Go.Proofs.YtibchilpaaiecaaGreatDoor.L Go.Proofs
noncomputable def U : Tbl := T.put 100 (.prim DL)
theorem okU : ∀ f d, U f = some d → cW Tryz.prog f d := Tbl.put_ok okT HJ
theorem tleU : Tle T U := Tle.put rfl
theorem upU {f : FuncId} {args : List AV} {h : AH} {r : AV × AH} (hx : run T f args h = some r) : run U f args h = some r := Ha tleU hx
end Go.Proofs.YtibchilpaaiecaaGreatDoor.F
namespace Go.Proofs.YtibchilpaaiecaaGreatDoor.L
open Go.Proofs.YtibchilpaaiecaaGreatDoor.M Go.Proofs.YtibchilpaaiecaaGreatDoor.F Go.Proofs
theorem BF {m : Md} {L : List (List UInt8)} {h : AH} (h8 : L.length ≤ 8) (hs : shS L) : run U 100 [.sl m (L.map encT)] h = some (srtR L, h) := by
 rw [eG (show U 100 = some (.prim DL) from rfl)]
 show (if (L.map encT).length ≤ 8 then (decS (L.map encT)).map fun L => (srtR L, h) else none) = _
 rw [if_pos (by simpa using h8), xw hs]; rfl
end Go.Proofs.YtibchilpaaiecaaGreatDoor.L
/- Ownerships: right, put, read; a tape's flags and what is left of it. -/
set_option linter.all false
set_option maxRecDepth 100000
namespace Go.Proofs.YtibchilpaaiecaaGreatDoor.L
open Go.Proofs.YtibchilpaaiecaaGreatDoor.M Go.Proofs.YtibchilpaaiecaaGreatDoor.F Go.Proofs
theorem Kb : ∀ {p : List (List UInt8)}, mrLL (p.map encT) = 0 := fun {p} => mr_S p
theorem Fp {p : List (List UInt8)} : szOK 1 (p.map encT) = true := Fo p
attribute [go_sem] Kb Fp
theorem DO {a b : List (List UInt8)} {h : AH} (hl : a.length = b.length) (hs : a.length ≤ 1000000000) : ∀ (d i : Nat), d + i = a.length →
  (decide (a.drop i = b.drop i) = true ∧ den T (.loop aO) (bo (.sl .sh (a.map encT)) (.sl .sh (b.map encT)) (.int .i64 a.length) (.int .i64 i)) h = some (.exit 0, gm, h)) ∨
  (decide (a.drop i = b.drop i) = false ∧ ∃ σ, den T (.loop aO) (bo (.sl .sh (a.map encT)) (.sl .sh (b.map encT)) (.int .i64 a.length) (.int .i64 i)) h = some (.ret, σ, h) ∧ σ.getD 4 aa = .bool false) := by
 intro d
 induction d with
 | zero =>
  intro i hd
  have hd' : decide ((i : Int) < a.length) = false := decide_eq_false (by omega)
  refine .inl ⟨by rw [List.drop_eq_nil_of_le (by omega), List.drop_eq_nil_of_le (by omega)]; rfl, ?_⟩
  rw [ae]
  simp -implicitDefEqProofs (disch := (refine ab ?_; first | assumption | omega | (simp [go_sem] <;> omega) | with_unfolding_all rfl | decide)) only [go_sem, Nat.reduceAdd, Nat.reduceSub, reduceIte, reduceCtorEq, hd']
 | succ d ih =>
  intro i hd
  have hia : i < a.length := by omega
  have hib : i < b.length := by omega
  have hd' : decide ((i : Int) < a.length) = true := decide_eq_true (by omega)
  have ga : (a.map encT)[(i : Int).toNat]? = some (encT a[i]) := by simp [hia]
  have gb : (b.map encT)[(i : Int).toNat]? = some (encT b[i]) := by simp [hib]
  have e7 := incP (n := i) (by omega)
  have ih' := ih (i + 1) (by omega)
  have hdr := mW hia hib
  generalize a[i] = x at *
  generalize b[i] = y at *
  rw [hdr]
  simp only [encT] at ga gb
  by_cases hxy : x = y
  ·have hx : decide (x = y) = true := decide_eq_true hxy
   have hq : (x == y) = true := by simp [hxy]
   have hstep : den T (.loop aO) (bo (.sl .sh (a.map encT)) (.sl .sh (b.map encT)) (.int .i64 a.length) (.int .i64 i)) h = den T (.loop aO) (bo (.sl .sh (a.map encT)) (.sl .sh (b.map encT)) (.int .i64 a.length) (.int .i64 (i + 1 : Nat))) h := by
    rw [ae]
    simp (maxSteps := 2000000) -implicitDefEqProofs (disch := (refine ab ?_; first | assumption | omega | (simp [go_sem] <;> omega) | with_unfolding_all rfl | decide)) only [go_sem, Nat.reduceAdd, Nat.reduceSub, reduceIte, reduceCtorEq, hd', ga, gb, hq, Bool.not_true, Bool.not_false, e7]
    try rfl
   rw [hstep, hx, Bool.true_and]
   exact ih'
  ·have hx : decide (x = y) = false := decide_eq_false hxy
   have hq : (x == y) = false := by simp [hxy]
   refine .inr ⟨by rw [hx, Bool.false_and], ?_⟩
   rw [ae]
   simp (maxSteps := 2000000) -implicitDefEqProofs (disch := (refine ab ?_; first | assumption | omega | (simp [go_sem] <;> omega) | with_unfolding_all rfl | decide)) only [go_sem, Nat.reduceAdd, Nat.reduceSub, reduceIte, reduceCtorEq, hd', ga, gb, hq, Bool.not_true, Bool.not_false]
   exact ⟨_, rfl, rfl⟩
theorem BG {a b : List (List UInt8)} {h : AH} (ha : a.length ≤ 1000000000) : run T 48 [.sl .sh (a.map encT), .sl .sh (b.map encT)] h = some (.bool (decide (a = b)), h) := by
 rw [af T_48]
 by_cases hl : a.length = b.length
 ·have hq : ((a.length : Int) != (b.length : Int)) = false := by simp [hl]
  rcases DO (h := h) hl ha a.length 0 (by omega) with ⟨h1, h2⟩ | ⟨h1, σ, h2, h3⟩
  ·simp only [show ((0 : Nat) : Int) = 0 from rfl, List.drop_zero] at h1 h2
   simp (maxSteps := 2000000) -implicitDefEqProofs (disch := (refine ab ?_; first | assumption | omega | (simp [go_sem] <;> omega) | with_unfolding_all rfl | decide)) only [go_sem, Nat.reduceAdd, Nat.reduceSub, reduceIte, reduceCtorEq, aH, List.length_map, hq, h2, h1]
  ·simp only [show ((0 : Nat) : Int) = 0 from rfl, List.drop_zero] at h1 h2
   simp (maxSteps := 2000000) -implicitDefEqProofs (disch := (refine ab ?_; first | assumption | omega | (simp [go_sem] <;> omega) | with_unfolding_all rfl | decide)) only [go_sem, Nat.reduceAdd, Nat.reduceSub, reduceIte, reduceCtorEq, aH, List.length_map, hq, h2, h1, h3]
 ·have hq : ((a.length : Int) != (b.length : Int)) = true := by simp; omega
  have hne : decide (a = b) = false := decide_eq_false fun e => hl (by rw [e])
  simp (maxSteps := 2000000) -implicitDefEqProofs (disch := (refine ab ?_; first | assumption | omega | (simp [go_sem] <;> omega) | with_unfolding_all rfl | decide)) only [go_sem, Nat.reduceAdd, Nat.reduceSub, reduceIte, reduceCtorEq, aH, List.length_map, hq, hne]
def rigO (l : List (List UInt8)) : Bool := decide (l.length ≤ 8) && decide (srtC l = l)
theorem DP {l : List (List UInt8)} {s : List UInt8} (h : s ∈ srtC l) : rigC s = true ∧ s ∈ l := by
 have := (vT ltC (l.filter rigC) s).1 (oA h)
 exact ⟨(List.mem_filter.1 this).2, (List.mem_filter.1 this).1⟩
theorem jA {l : List (List UInt8)} (h : rigO l = true) : l.length ≤ 8 ∧ ∀ s ∈ l, rigC s = true ∧ s.length ≤ 60 := by
 simp only [rigO, Bool.and_eq_true, decide_eq_true_eq] at h
 refine ⟨h.1, fun s hs => ?_⟩
 have : rigC s = true := (DP (by rw [h.2]; exact hs)).1
 exact ⟨this, sL this⟩
theorem xx {l : List (List UInt8)} {h : AH} (hs : shS l) : run U 61 [.sl .sh (l.map encT)] h = some (.bool (rigO l), h) := by
 rw [af (show U 61 = some (.code fp) from rfl)]
 unfold rigO
 by_cases h8 : l.length ≤ 8
 ·have e1 : decide ((l.length : Int) ≤ 8) = true := decide_eq_true (by omega)
  have e2 : decide (l.length ≤ 8) = true := decide_eq_true h8
  have h1 := BF (m := .sh) (h := []) h8 hs
  have h2 := upU (BG (a := srtC l) (b := l) (h := []) (by
   have h1 : (srtC l).length ≤ l.length := by
    have a1 : ∀ l : List (List UInt8), (cmpt l).length ≤ l.length := by
     intro l
     induction l with
     | nil => simp [cmpt]
     | cons x r ih =>
      cases r with
      | nil => simp [cmpt]
      | cons y r =>
       simp only [cmpt]
       split
       ·exact Nat.le_trans ih (by simp)
       ·simp only [List.length_cons] at ih ⊢; omega
    have a2 := a1 (srtV ltC (l.filter rigC))
    rw [xv] at a2
    exact Nat.le_trans a2 (List.length_filter_le ..)
   omega))
  simp only [srtR] at h1
  simp (maxSteps := 2000000) -implicitDefEqProofs (disch := (refine ab ?_; first | assumption | omega | (simp [go_sem] <;> omega) | with_unfolding_all rfl | decide)) only [go_sem, Nat.reduceAdd, Nat.reduceSub, reduceIte, reduceCtorEq, fp, List.length_map, e1, e2, h1, h2]
 ·have e1 : decide ((l.length : Int) ≤ 8) = false := decide_eq_false (by omega)
  have e2 : decide (l.length ≤ 8) = false := decide_eq_false h8
  simp (maxSteps := 2000000) -implicitDefEqProofs (disch := (refine ab ?_; first | assumption | omega | (simp [go_sem] <;> omega) | with_unfolding_all rfl | decide)) only [go_sem, Nat.reduceAdd, Nat.reduceSub, reduceIte, reduceCtorEq, fp, List.length_map, e1, e2, Bool.false_and]
end Go.Proofs.YtibchilpaaiecaaGreatDoor.L
