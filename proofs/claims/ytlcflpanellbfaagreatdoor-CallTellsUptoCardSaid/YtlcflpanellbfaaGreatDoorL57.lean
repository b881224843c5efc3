/- Replies compared, the program's way; a law's guard; reading a reply's numbers. -/
import Derived.Test.YtlcflpanellbfaaGreatDoorL103
import Derived.Test.YtlcflpanellbfaaGreatDoorL20
set_option linter.all false
set_option maxRecDepth 100000
namespace Go.Proofs.YtlcflpanellbfaaGreatDoor.L
open Go.Proofs.YtlcflpanellbfaaGreatDoor.M Go.Proofs.YtlcflpanellbfaaGreatDoor.F Go.Proofs
theorem ba_dec (a b : List UInt8) : ((⟨a.toArray⟩ : ByteArray) == ⟨b.toArray⟩) = decide (a = b) := by
  have h : ((⟨a.toArray⟩ : ByteArray) == ⟨b.toArray⟩) = (a.toArray == b.toArray) := rfl
  rw [h]
  by_cases h : a = b
  · subst h; simp
  · simp [h]
theorem bl_dec (a b : List UInt8) : ((⟨a.toArray⟩ : ByteArray).toList == (⟨b.toArray⟩ : ByteArray).toList) = decide (a = b) := by
  rw [toList_mk, toList_mk]
  by_cases h : a = b
  · subst h; simp
  · simp [h]
theorem lb_dec {α : Type} [DecidableEq α] (x y : α) : (x == y) = decide (x = y) := by by_cases h : x = y <;> simp [h]
theorem lbU (x y : List UInt8) : (x == y) = decide (x = y) := by by_cases h : x = y <;> simp [h]
theorem incN {n : Nat} (h : n ≤ 9223372036854775806) : IntKind.i64.wrap ((n : Int) + 1) = ((n + 1 : Nat) : Int) := by rw [w64 (by omega) (by omega)]; rfl
theorem eqE_dec (a b : Ent) : eqI (encE a) (encE b) [(0, .string), (1, .int .i64)] = some (decide (a = b)) := by
  obtain ⟨a1, a2⟩ := a
  obtain ⟨b1, b2⟩ := b
  show (match (some ((⟨a1.toArray⟩ : ByteArray) == ⟨b1.toArray⟩) : Option Bool) with | some true => (match (some (a2 == b2) : Option Bool) with | some true => some true | some false => some false | none => none) | some false => some false | none => none) = _
  rw [ba_dec, lb_dec]
  by_cases h1 : a1 = b1 <;> by_cases h2 : a2 = b2 <;> simp [h1, h2]
theorem drop_dec {α : Type} [DecidableEq α] {a b : List α} {i : Nat} (ha : i < a.length) (hb : i < b.length) : decide (a.drop i = b.drop i) = (decide (a[i] = b[i]) && decide (a.drop (i + 1) = b.drop (i + 1))) := by
  have h : (a.drop i = b.drop i) ↔ (a[i] = b[i] ∧ a.drop (i + 1) = b.drop (i + 1)) := by
    rw [List.drop_eq_getElem_cons ha, List.drop_eq_getElem_cons hb, List.cons.injEq]
  rw [decide_eq_decide.2 h, Bool.decide_and]
theorem beq_run {a b : List UInt8} {h : AH} : run T 52 [.sl .sh (a.map encB), .sl .sh (b.map encB)] h = some (.bool (decide (a = b)), h) := by
  rw [run_code T_52]
  simp -implicitDefEqProofs (disch := (refine id_ok ?_; first | assumption | omega | (simp [go_sem] <;> omega) | with_unfolding_all rfl | decide)) only [go_sem, Nat.reduceAdd, Nat.reduceSub, Nat.reduceMul, Nat.reduceLeDiff, Nat.reduceEqDiff, Nat.reduceBEq, reduceIte, reduceCtorEq, c_bytes_Equal, lbU a b]
theorem eqEs_loop {a b : List Ent} {h : AH} (hl : a.length = b.length) (hs : a.length ≤ 1000000000) : ∀ (d i : Nat), d + i = a.length →
    (decide (a.drop i = b.drop i) = true ∧ den T (.loop l_slices_Equal_api_Label_api_Entry_0) (s_slices_Equal_api_Label_api_Entry_0 (.sl .sh (a.map encE)) (.sl .sh (b.map encE)) (.int .i64 a.length) (.int .i64 i)) h = some (.exit 0, x_slices_Equal_api_Label_api_Entry_0, h)) ∨
    (decide (a.drop i = b.drop i) = false ∧ ∃ σ, den T (.loop l_slices_Equal_api_Label_api_Entry_0) (s_slices_Equal_api_Label_api_Entry_0 (.sl .sh (a.map encE)) (.sl .sh (b.map encE)) (.int .i64 a.length) (.int .i64 i)) h = some (.ret, σ, h) ∧ σ.getD 4 undefA = .bool false) := by
  intro d
  induction d with
  | zero =>
    intro i hd
    have hd' : decide ((i : Int) < a.length) = false := decide_eq_false (by omega)
    refine .inl ⟨by rw [List.drop_eq_nil_of_le (by omega), List.drop_eq_nil_of_le (by omega)]; rfl, ?_⟩
    rw [lp_round]
    simp -implicitDefEqProofs (disch := (refine id_ok ?_; first | assumption | omega | (simp [go_sem] <;> omega) | with_unfolding_all rfl | decide)) only [go_sem, Nat.reduceAdd, Nat.reduceSub, Nat.reduceMul, Nat.reduceLeDiff, Nat.reduceEqDiff, Nat.reduceBEq, reduceIte, reduceCtorEq, hd']
  | succ d ih =>
    intro i hd
    have hia : i < a.length := by omega
    have hib : i < b.length := by omega
    have hd' : decide ((i : Int) < a.length) = true := decide_eq_true (by omega)
    have ga : (a.map encE)[(i : Int).toNat]? = some (encE a[i]) := by simp [hia]
    have gb : (b.map encE)[(i : Int).toNat]? = some (encE b[i]) := by simp [hib]
    have e7 := incN (n := i) (by omega)
    have ih' := ih (i + 1) (by omega)
    have hq := eqE_dec a[i] b[i]
    have hdr := drop_dec hia hib
    generalize a[i] = x at *
    generalize b[i] = y at *
    rw [hdr]
    by_cases hxy : x = y
    · have hx : decide (x = y) = true := decide_eq_true hxy
      rw [hx] at hq
      have hstep : den T (.loop l_slices_Equal_api_Label_api_Entry_0) (s_slices_Equal_api_Label_api_Entry_0 (.sl .sh (a.map encE)) (.sl .sh (b.map encE)) (.int .i64 a.length) (.int .i64 i)) h = den T (.loop l_slices_Equal_api_Label_api_Entry_0) (s_slices_Equal_api_Label_api_Entry_0 (.sl .sh (a.map encE)) (.sl .sh (b.map encE)) (.int .i64 a.length) (.int .i64 (i + 1 : Nat))) h := by
        simp only [encE] at ga gb hq
        rw [lp_round]
        simp (maxSteps := 2000000) -implicitDefEqProofs (disch := (refine id_ok ?_; first | assumption | omega | (simp [go_sem] <;> omega) | with_unfolding_all rfl | decide)) only [go_sem, Nat.reduceAdd, Nat.reduceSub, Nat.reduceMul, Nat.reduceLeDiff, Nat.reduceEqDiff, Nat.reduceBEq, reduceIte, reduceCtorEq, hd', ga, gb, hq, e7]
        try rfl
      rw [hstep, hx, Bool.true_and]
      exact ih'
    · have hx : decide (x = y) = false := decide_eq_false hxy
      rw [hx] at hq
      refine .inr ⟨by rw [hx, Bool.false_and], ?_⟩
      simp only [encE] at ga gb hq
      rw [lp_round]
      simp (maxSteps := 2000000) -implicitDefEqProofs (disch := (refine id_ok ?_; first | assumption | omega | (simp [go_sem] <;> omega) | with_unfolding_all rfl | decide)) only [go_sem, Nat.reduceAdd, Nat.reduceSub, Nat.reduceMul, Nat.reduceLeDiff, Nat.reduceEqDiff, Nat.reduceBEq, reduceIte, reduceCtorEq, hd', ga, gb, hq]
      exact ⟨_, rfl, rfl⟩
theorem eqEs_run {a b : List Ent} {h : AH} (ha : a.length ≤ 1000000000) : run T 76 [.sl .sh (a.map encE), .sl .sh (b.map encE)] h = some (.bool (decide (a = b)), h) := by
  rw [run_code T_76]
  by_cases hl : a.length = b.length
  · have hq : ((a.length : Int) != (b.length : Int)) = false := by simp [hl]
    rcases eqEs_loop (h := h) hl ha a.length 0 (by omega) with ⟨h1, h2⟩ | ⟨h1, σ, h2, h3⟩
    · simp only [show ((0 : Nat) : Int) = 0 from rfl, List.drop_zero] at h1 h2
      simp (maxSteps := 2000000) -implicitDefEqProofs (disch := (refine id_ok ?_; first | assumption | omega | (simp [go_sem] <;> omega) | with_unfolding_all rfl | decide)) only [go_sem, Nat.reduceAdd, Nat.reduceSub, Nat.reduceMul, Nat.reduceLeDiff, Nat.reduceEqDiff, Nat.reduceBEq, reduceIte, reduceCtorEq, c_slices_Equal_api_Label_api_Entry, List.length_map, hq, h2, h1]
    · simp only [show ((0 : Nat) : Int) = 0 from rfl, List.drop_zero] at h1 h2
      simp (maxSteps := 2000000) -implicitDefEqProofs (disch := (refine id_ok ?_; first | assumption | omega | (simp [go_sem] <;> omega) | with_unfolding_all rfl | decide)) only [go_sem, Nat.reduceAdd, Nat.reduceSub, Nat.reduceMul, Nat.reduceLeDiff, Nat.reduceEqDiff, Nat.reduceBEq, reduceIte, reduceCtorEq, c_slices_Equal_api_Label_api_Entry, List.length_map, hq, h2, h1, h3]
  · have hq : ((a.length : Int) != (b.length : Int)) = true := by simp; omega
    have hne : decide (a = b) = false := decide_eq_false fun e => hl (by rw [e])
    simp (maxSteps := 2000000) -implicitDefEqProofs (disch := (refine id_ok ?_; first | assumption | omega | (simp [go_sem] <;> omega) | with_unfolding_all rfl | decide)) only [go_sem, Nat.reduceAdd, Nat.reduceSub, Nat.reduceMul, Nat.reduceLeDiff, Nat.reduceEqDiff, Nat.reduceBEq, reduceIte, reduceCtorEq, c_slices_Equal_api_Label_api_Entry, List.length_map, hq, hne]
theorem lsame_run {a b : List Ent} {h : AH} (ha : a.length ≤ 1000000000) : run T 50 [.sl .sh (a.map encE), .sl .sh (b.map encE)] h = some (.bool (decide (a = b)), h) := by
  have h1 := fun h => eqEs_run (b := b) (h := h) ha
  rw [run_code T_50]
  simp -implicitDefEqProofs (disch := (refine id_ok ?_; first | assumption | omega | (simp [go_sem] <;> omega) | with_unfolding_all rfl | decide)) only [go_sem, Nat.reduceAdd, Nat.reduceSub, Nat.reduceMul, Nat.reduceLeDiff, Nat.reduceEqDiff, Nat.reduceBEq, reduceIte, reduceCtorEq, c_label_Same, h1]
end Go.Proofs.YtlcflpanellbfaaGreatDoor.L
/- ReplyBack: what its function comes to. -/
set_option linter.all false
set_option maxRecDepth 100000
namespace Go.Proofs.YtlcflpanellbfaaGreatDoor.L
open Go.Proofs.YtlcflpanellbfaaGreatDoor.M Go.Proofs.YtlcflpanellbfaaGreatDoor.F Go.Proofs
end Go.Proofs.YtlcflpanellbfaaGreatDoor.L
/- Regions whose order is drawn: their last check, by rewriting. -/
set_option linter.all false
set_option maxRecDepth 100000
namespace Go.Proofs.YtlcflpanellbfaaGreatDoor.L
open Go.Proofs.YtlcflpanellbfaaGreatDoor.M Go.Proofs.YtlcflpanellbfaaGreatDoor.F Go.Proofs
section
variable {S : List Nat} {E : List (AH × AH)} {h h' : AH} {σ : List AV} {o : CO} {d : Option Nat} {m : Option Nat} {x : Opd} {g : Option (Nat × Bool)} {f : FuncId} {xs : List Opd}
def gVV (v : Option AV) (w : Bool) : Option Bool := match v with | some (.bool b) => some (b == w) | some .any => none | _ => some false
def addSL (b : Option Bool) (v : AV) (S : List Nat) : List Nat := match b, v with | some true, .box id _ => id :: S | some true, .mp id => id :: S | _, _ => S
theorem adE_f : addE (o, false) h h' E = E := rfl
theorem adE_l : addE (⟨d, .load m x, g⟩, true) h h' E = E := rfl
theorem adE_c : addE (⟨d, .call f xs, g⟩, true) h h' E = (h, h') :: E := rfl
theorem adS_f : addS (o, false) σ S = S := rfl
theorem adS_c : addS (⟨d, .call f xs, g⟩, true) σ S = S := rfl
theorem adS_l : addS (⟨d, .load m x, g⟩, true) σ S = addSL (gV σ g) (evalO σ x) S := by
  simp only [addS, addSL, isL, Bool.and_self, if_true, loadOpd]
  cases gV σ g with
  | none => rfl
  | some b => cases b <;> rfl
theorem gV_n : gV σ none = some true := rfl
theorem gV_s {s : Nat} {w : Bool} : gV σ (some (s, w)) = gVV σ[s]? w := by
  simp only [gV, gVV]
  cases σ[s]? with
  | none => rfl
  | some v => cases v <;> rfl
theorem gVV_b {b w : Bool} : gVV (some (.bool b)) w = some (b == w) := rfl
theorem aSL_b {id off : Nat} : addSL (some true) (.box id off) S = id :: S := rfl
theorem all_nil : (∀ e ∈ ([] : List (AH × AH)), sameS S e.1 e.2) = True := by simp
theorem all_cons {e : AH × AH} : (∀ e' ∈ e :: E, sameS S e'.1 e'.2) = (sameS S e.1 e.2 ∧ ∀ e' ∈ E, sameS S e'.1 e'.2) := by simp
theorem same_self : sameS S h h = True := by simp [sameS]
theorem same_nil : sameS [] h h' = True := by simp [sameS]
theorem same_cons {i : Nat} : sameS (i :: S) h h' = (h'[i]? = h[i]? ∧ sameS S h h') := by simp [sameS]
end
attribute [go_sem] adE_f adE_l adE_c adS_f adS_c adS_l gV_n gV_s gVV_b aSL_b same_self same_nil same_cons
attribute [go_sem ↓] all_nil all_cons
theorem adE_st {d : Option Nat} {n : Nat} {x y : Opd} {gd : Option (Nat × Bool)} {h h' : AH} {E : List (AH × AH)} : addE (⟨d, .store n x y, gd⟩, true) h h' E = (h, h') :: E := rfl
theorem adS_st {d : Option Nat} {n : Nat} {x y : Opd} {gd : Option (Nat × Bool)} {σ : List AV} {S : List Nat} : addS (⟨d, .store n x y, gd⟩, true) σ S = S := rfl
attribute [go_sem] adE_st adS_st
end Go.Proofs.YtlcflpanellbfaaGreatDoor.L
