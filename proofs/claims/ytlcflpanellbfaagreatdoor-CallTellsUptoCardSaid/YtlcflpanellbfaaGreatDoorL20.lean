/- Numbers and texts as bytes: what a pen writes. -/
import Derived.Test.YtlcflpanellbfaaGreatDoorF0
set_option linter.all false
set_option maxRecDepth 100000
namespace Go.Proofs.YtlcflpanellbfaaGreatDoor.L
open Go.Proofs.YtlcflpanellbfaaGreatDoor.M Go.Proofs.YtlcflpanellbfaaGreatDoor.F Go.Proofs
theorem w8 (n : Int) : IntKind.u8.wrap n = n % 256 := by simp [IntKind.wrap, IntKind.bits, IntKind.signed]
theorem w64 {n : Int} (h1 : -9223372036854775808 ≤ n) (h2 : n ≤ 9223372036854775807) : IntKind.i64.wrap n = n := by
  simp only [IntKind.wrap, IntKind.bits, IntKind.signed]; simp; split <;> omega
def num (n : Nat) : List UInt8 := if h : n < 128 then [UInt8.ofNat n] else UInt8.ofNat (n % 128 + 128) :: num (n / 128)
termination_by n
decreasing_by omega
def numP (n : Nat) : List UInt8 := if h : n < 128 then [] else UInt8.ofNat (n % 128 + 128) :: numP (n / 128)
termination_by n
decreasing_by omega
def numT (n : Nat) : Nat := if h : n < 128 then n else numT (n / 128)
termination_by n
decreasing_by omega
theorem num_eq (n : Nat) : num n = numP n ++ [UInt8.ofNat (numT n)] := by
  induction n using Nat.strongRecOn with
  | _ n ih =>
    by_cases h : n < 128
    · rw [num, numP, numT]; simp [h]
    · rw [num, numP, numT]; simp only [h, dite_false, List.cons_append]; rw [ih (n / 128) (by omega)]
theorem numT_lt (n : Nat) : numT n < 128 := by
  induction n using Nat.strongRecOn with
  | _ n ih =>
    rw [numT]; split
    · assumption
    · exact ih _ (by omega)
theorem numP_len (k n : Nat) (h : n < 128 ^ (k + 1)) : (numP n).length ≤ k := by
  induction k generalizing n with
  | zero => rw [numP]; simp at h; simp [h]
  | succ k ih =>
    rw [numP]; split
    · simp
    · have : n / 128 < 128 ^ (k + 1) := Nat.div_lt_of_lt_mul (by rw [Nat.pow_succ] at h; omega)
      have := ih _ this
      simp; omega
theorem num_len {n : Nat} (h : n ≤ 4611686018427387903) : (num n).length ≤ 9 := by
  rw [num_eq]
  have := numP_len 8 n (by omega)
  simp; omega
theorem stB_ow {off : Nat} {cs : List AV} {l : List (List AV)} (h1 : Nat.ble (off + 1) cs.length = true) : storeB 1 off (ow l) (some (.cells cs)) = some (.cells (ovl cs off [ow l])) := by
  have hc : (ow l).cells = [ow l] := ow_cells
  rw [stB_some h1 (by rw [hc]; rfl) (by rw [hc]; simp only [onesL, ow_one, Bool.and_true]), hc]
attribute [go_sem high] stB_ow
theorem tm128 {n : Nat} (h : n ≤ 4611686018427387903) : IntKind.u8.wrap (IntKind.i64.wrap ((n : Int).tmod 128 + 128)) = ((UInt8.ofNat (n % 128 + 128)).toNat : Int) := by
  rw [Int.tmod_eq_emod_of_nonneg (by omega), w64 (by omega) (by omega), w8]
  simp
theorem td128 {n : Nat} (h : n ≤ 4611686018427387903) : IntKind.i64.wrap ((n : Int).tdiv 128) = ((n / 128 : Nat) : Int) := by
  rw [Int.tdiv_eq_ediv_of_nonneg (by omega), w64 (by omega) (by omega)]; omega
theorem set_same {α : Type} {l : List α} {i : Nat} {x : α} (h : l[i]? = some x) : l.set i x = l := by
  obtain ⟨hi, rfl⟩ := List.getElem?_eq_some_iff.1 h; exact List.set_getElem_self hi
theorem clone_run {l : List UInt8} {h : AH} (hn : l.length < 140737488355328) : run T 42 [.sl .sh (l.map encB)] h = some (ow (l.map encB), h) := by
  rw [run_prim T_42]
  show (if szOK 1 (l.map encB) = true ∧ _ then _ else _) = _
  rw [if_pos ⟨szOK_enc, by rw [List.length_map]; omega, by rw [List.length_map]; omega⟩]
def Pn (l : List UInt8) : Bx := .cells [ow (l.map encB)]
theorem pnum_loop {p : Nat} {h : AH} (hp : p < h.length) : ∀ (n : Nat) (l : List UInt8), n ≤ 4611686018427387903 → l.length + (numP n).length ≤ 100000000000 →
    den T (.loop l_tape_Pen_Number_0) (s_tape_Pen_Number_0 (.box p 0) (.int .i64 n)) (h.set p (Pn l)) = some (.exit 0, x_tape_Pen_Number_0 (.box p 0) (.int .i64 (numT n : Nat)), h.set p (Pn (l ++ numP n))) := by
  intro n
  induction n using Nat.strongRecOn with
  | _ n ih =>
    intro l hn hl
    rw [lp_round]
    by_cases hc : n < 128
    · have hd : decide ((n : Int) ≥ 128) = false := decide_eq_false (by omega)
      rw [numT, numP]
      simp -implicitDefEqProofs (disch := (refine id_ok ?_; first | assumption | omega | (simp [go_sem] <;> omega) | with_unfolding_all rfl | decide)) only [go_sem, Nat.reduceAdd, Nat.reduceSub, Nat.reduceMul, Nat.reduceLeDiff, Nat.reduceEqDiff, Nat.reduceBEq, reduceIte, reduceCtorEq, hc, hd, dite_true, List.append_nil]
    · have hd : decide ((n : Int) ≥ 128) = true := decide_eq_true (by omega)
      rw [numP] at hl
      rw [numT, numP]
      simp only [hc, dite_false, List.length_cons] at hl ⊢
      have := ih (n / 128) (by omega) (l ++ [UInt8.ofNat (n % 128 + 128)]) (by omega) (by simp only [List.length_append, List.length_cons, List.length_nil]; omega)
      simp only [List.map_append, Pn, List.map_cons, List.map_nil, encB, List.append_assoc, List.singleton_append] at this ⊢
      simp -implicitDefEqProofs (disch := (refine id_ok ?_; first | assumption | omega | (simp [go_sem] <;> omega) | with_unfolding_all rfl | decide)) only [go_sem, Nat.reduceAdd, Nat.reduceSub, Nat.reduceMul, Nat.reduceLeDiff, Nat.reduceEqDiff, Nat.reduceBEq, reduceIte, reduceCtorEq, hd, Pn, tm128 hn, td128 hn]
      exact this
theorem tm8 {n : Nat} (h : n < 128) : IntKind.u8.wrap (n : Int) = ((UInt8.ofNat n).toNat : Int) := by rw [w8]; simp
theorem pnum_run {p n : Nat} {l : List UInt8} {h : AH} (hp : h[p]? = some (Pn l)) (hn : n ≤ 4611686018427387903) (hl : l.length + 9 ≤ 100000000000) :
    run T 40 [.box p 0, .int .i64 n] h = some (.bool true, h.set p (Pn (l ++ num n))) := by
  have hlt : p < h.length := (List.getElem?_eq_some_iff.1 hp).1
  have hs : h.set p (Pn l) = h := set_same hp
  have h9 := numP_len 8 n (by omega)
  have hlp := pnum_loop hlt n l hn (by omega)
  rw [hs] at hlp
  have d1 : decide ((n : Int) < 0) = false := decide_eq_false (by omega)
  have d2 : decide ((n : Int) > 4611686018427387903) = false := decide_eq_false (by omega)
  have ht := numT_lt n
  rw [run_code T_40]
  rw [num_eq]
  simp -implicitDefEqProofs (disch := (refine id_ok ?_; first | assumption | omega | (simp [go_sem] <;> omega) | with_unfolding_all rfl | decide)) only [go_sem, Nat.reduceAdd, Nat.reduceSub, Nat.reduceMul, Nat.reduceLeDiff, Nat.reduceEqDiff, Nat.reduceBEq, reduceIte, reduceCtorEq, c_tape_Pen_Number, d1, d2, hlp, Pn, tm8 ht]
  simp only [List.map_append, List.map_cons, List.map_nil, encB, List.append_assoc]
theorem ptext_run {p : Nat} {l s : List UInt8} {h : AH} (hp : h[p]? = some (Pn l)) (hl : l.length + s.length + 9 ≤ 100000000000) :
    run T 74 [.box p 0, .str ⟨s.toArray⟩] h = some (.tup [], h.set p (Pn (l ++ num s.length ++ s))) := by
  have hlt : p < h.length := (List.getElem?_eq_some_iff.1 hp).1
  have h9 := num_len (n := s.length) (by omega)
  have h1 := pnum_run hp (n := s.length) (by omega) (by omega)
  have hz : ByteArray.size ⟨s.toArray⟩ = s.length := by simp [ByteArray.size]
  rw [run_code T_74]
  simp -implicitDefEqProofs (disch := (refine id_ok ?_; first | assumption | omega | (simp [go_sem] <;> omega) | with_unfolding_all rfl | decide)) only [go_sem, Nat.reduceAdd, Nat.reduceSub, Nat.reduceMul, Nat.reduceLeDiff, Nat.reduceEqDiff, Nat.reduceBEq, reduceIte, reduceCtorEq, c_tape_Pen_Text, hz, h1, Pn]
  simp only [List.map_append, List.append_assoc]
theorem pbytes_run {p : Nat} {l : List UInt8} {h : AH} (hp : h[p]? = some (Pn l)) (hl : l.length ≤ 100000000000) :
    run T 11 [.box p 0] h = some (ow (l.map encB), h) := by
  rw [run_code T_11]
  have h1 := clone_run (l := l) (h := []) (by omega)
  simp -implicitDefEqProofs (disch := (refine id_ok ?_; first | assumption | omega | (simp [go_sem] <;> omega) | with_unfolding_all rfl | decide)) only [go_sem, Nat.reduceAdd, Nat.reduceSub, Nat.reduceMul, Nat.reduceLeDiff, Nat.reduceEqDiff, Nat.reduceBEq, reduceIte, reduceCtorEq, c_tape_Pen_Bytes, hp, Pn, h1]
end Go.Proofs.YtlcflpanellbfaaGreatDoor.L
/- Numbers and texts as bytes: what a tape reads. -/
set_option linter.all false
set_option maxRecDepth 100000
namespace Go.Proofs.YtlcflpanellbfaaGreatDoor.L
open Go.Proofs.YtlcflpanellbfaaGreatDoor.M Go.Proofs.YtlcflpanellbfaaGreatDoor.F Go.Proofs
theorem gdset {σ : List AV} {i j : Nat} {v d : AV} (h : (i == j) = false) : (σ.set i v).getD j d = σ.getD j d := by
  have : i ≠ j := by simpa using h
  simp only [List.getD, List.getElem?_set_ne this]
attribute [go_sem] gdset
theorem tkl {α : Type} {l : List α} : l.take ((l.length : Int)).toNat = l := by simp
def fT (s : ByteArray) (c : Int) (b : AV) : AV := .iface 92 (.ref [.str s, .int .i64 c, b])
def er : Option Int → AV
  | none => .nili
  | some c => fT ⟨#[116, 97, 112, 101]⟩ c .nili
def Tp (b : List UInt8) (e : Option Int) : Bx := .cells [.sl .sh (b.map encB), er e]
theorem er_cells (e : Option Int) : (er e).cells = [er e] := by cases e <;> rfl
theorem er_sh (e : Option Int) : (er e).sh = er e := by cases e <;> rfl
theorem er_one (e : Option Int) : (er e).one = true := by cases e <;> rfl
theorem er_n0 : isnilV .ifc false (er none) = some (.bool true) := rfl
theorem er_n1 : isnilV .ifc true (er none) = some (.bool false) := rfl
theorem er_s0 {c : Int} : isnilV .ifc false (er (some c)) = some (.bool false) := rfl
theorem er_s1 {c : Int} : isnilV .ifc true (er (some c)) = some (.bool true) := rfl
theorem stB_er {off : Nat} {cs : List AV} {e : Option Int} (h1 : Nat.ble (off + 1) cs.length = true) : storeB 1 off (er e) (some (.cells cs)) = some (.cells (ovl cs off [er e])) := by
  have hc := er_cells e
  rw [stB_some h1 (by rw [hc]; rfl) (by rw [hc]; simp only [onesL, er_one, Bool.and_true]), hc]
attribute [go_sem] er_n0 er_n1 er_s0 er_s1 er_sh
attribute [go_sem high] stB_er er_cells
theorem wrap_nil {s : ByteArray} {c : Int} {h : AH} (hc : c ≠ 0) : run T 58 [.str s, .int .i64 c, .nili] h = some (fT s c .nili, h) := by
  have d1 : (c == 0) = false := by simpa using hc
  rw [run_code T_58]
  simp -implicitDefEqProofs (disch := (refine id_ok ?_; first | assumption | omega | (simp [go_sem] <;> omega) | with_unfolding_all rfl | decide)) only [go_sem, Nat.reduceAdd, Nat.reduceSub, Nat.reduceMul, Nat.reduceLeDiff, Nat.reduceEqDiff, Nat.reduceBEq, reduceIte, reduceCtorEq, c_fault_Wrap, d1]
  rfl
theorem fnew_run {c : Int} {h : AH} (hc : c ≠ 0) : run T 84 [.str ⟨#[116, 97, 112, 101]⟩, .int .i64 c] h = some (er (some c), h) := by
  rw [run_code T_84]
  have h1 := wrap_nil (s := ⟨#[116, 97, 112, 101]⟩) (h := h) hc
  simp -implicitDefEqProofs (disch := (refine id_ok ?_; first | assumption | omega | (simp [go_sem] <;> omega) | with_unfolding_all rfl | decide)) only [go_sem, Nat.reduceAdd, Nat.reduceSub, Nat.reduceMul, Nat.reduceLeDiff, Nat.reduceEqDiff, Nat.reduceBEq, reduceIte, reduceCtorEq, c_fault_New, h1]
  rfl
theorem fail_run {t : Nat} {b : List UInt8} {e : Option Int} {c : Int} {h : AH} (ht : h[t]? = some (Tp b e)) (hc : c ≠ 0) :
    run T 78 [.box t 0, .int .i64 c] h = some (.int .i64 0, h.set t (Tp b (some (e.getD c)))) := by
  rw [run_code T_78]
  have h1 := fnew_run (h := h) hc
  cases e with
  | none => simp -implicitDefEqProofs (disch := (refine id_ok ?_; first | assumption | omega | (simp [go_sem] <;> omega) | with_unfolding_all rfl | decide)) only [go_sem, Nat.reduceAdd, Nat.reduceSub, Nat.reduceMul, Nat.reduceLeDiff, Nat.reduceEqDiff, Nat.reduceBEq, reduceIte, reduceCtorEq, c_tape_Tape_fail, ht, Tp, h1, Option.getD_none]
  | some d =>
    have hs := set_same ht
    simp -implicitDefEqProofs (disch := (refine id_ok ?_; first | assumption | omega | (simp [go_sem] <;> omega) | with_unfolding_all rfl | decide)) only [go_sem, Nat.reduceAdd, Nat.reduceSub, Nat.reduceMul, Nat.reduceLeDiff, Nat.reduceEqDiff, Nat.reduceBEq, reduceIte, reduceCtorEq, c_tape_Tape_fail, ht, Tp, h1, Option.getD_some]
    simp only [Tp] at hs
    rw [hs]
def rdN (n : Nat) (i : Nat) : List UInt8 → Nat × Nat × Nat
  | [] => (0, 0, 11)
  | c :: r => if i = 9 then (0, 0, 10) else if 128 ≤ c.toNat then rdN (n + (c.toNat - 128) * 128 ^ i) (i + 1) r else if c.toNat = 0 ∧ 0 < i then (0, 0, 10) else (n + c.toNat * 128 ^ i, i + 1, 0)
theorem rdN_loop {b : List UInt8} {h : AH} (hb : b.length ≤ 9223372036854775806) : ∀ (d i n : Nat) (w : Int), d + i = b.length → i ≤ 9 → n < 128 ^ i → (i ≤ 8 → w = (128 ^ i : Nat)) →
    ((rdN n i (b.drop i)) = (0, 0, 11) ∧ den T (.loop l_tape_Tape_number_0) (s_tape_Tape_number_0 (.int .i64 n) (.int .i64 w) (.sl .sh (b.map encB)) (.int .i64 b.length) (.int .i64 i)) h = some (.exit 0, x_tape_Tape_number_0, h)) ∨
    ∃ σ, den T (.loop l_tape_Tape_number_0) (s_tape_Tape_number_0 (.int .i64 n) (.int .i64 w) (.sl .sh (b.map encB)) (.int .i64 b.length) (.int .i64 i)) h = some (.ret, σ, h) ∧
      σ.getD 2 undefA = .int .i64 (rdN n i (b.drop i)).1 ∧ σ.getD 3 undefA = .int .i64 (rdN n i (b.drop i)).2.1 ∧ σ.getD 4 undefA = .int .i64 (rdN n i (b.drop i)).2.2 := by
  intro d
  induction d with
  | zero =>
    intro i n w hd hi hn hw
    have hd' : decide ((i : Int) < b.length) = false := decide_eq_false (by omega)
    refine .inl ⟨by rw [List.drop_eq_nil_of_le (by omega)]; rfl, ?_⟩
    rw [lp_round]
    simp -implicitDefEqProofs (disch := (refine id_ok ?_; first | assumption | omega | (simp [go_sem] <;> omega) | with_unfolding_all rfl | decide)) only [go_sem, Nat.reduceAdd, Nat.reduceSub, Nat.reduceMul, Nat.reduceLeDiff, Nat.reduceEqDiff, Nat.reduceBEq, reduceIte, reduceCtorEq, hd']
  | succ d ih =>
    intro i n w hd hi hn hw
    have hib : i < b.length := by omega
    have hd' : decide ((i : Int) < b.length) = true := decide_eq_true (by omega)
    have hdr : b.drop i = b[i] :: b.drop (i + 1) := List.drop_eq_getElem_cons hib
    have hgi : b[i]? = some b[i] := by simp [hib]
    rw [hdr]
    generalize b[i] = c at *
    have hge : (b.map encB)[(i : Int).toNat]? = some (encB c) := by simp [hgi]
    have hcl := c.toNat_lt
    simp only [rdN]
    by_cases h9 : i = 9
    · have e1 : ((i : Int) == 9) = true := by simp [h9]
      rw [if_pos h9]
      right
      rw [lp_round]
      simp -implicitDefEqProofs (disch := (refine id_ok ?_; first | assumption | omega | (simp [go_sem] <;> omega) | with_unfolding_all rfl | decide)) only [go_sem, Nat.reduceAdd, Nat.reduceSub, Nat.reduceMul, Nat.reduceLeDiff, Nat.reduceEqDiff, Nat.reduceBEq, reduceIte, reduceCtorEq, hd', hge, encB, e1]
      exact ⟨_, rfl, rfl, rfl, rfl⟩
    · have e1 : ((i : Int) == 9) = false := by simp; omega
      have hw' := hw (by omega)
      rw [if_neg h9]
      have h56 : (128 : Nat) ^ i ≤ 72057594037927936 := by
        have := Nat.pow_le_pow_right (n := 128) (by omega) (show i ≤ 8 by omega)
        simpa using this
      generalize hp : (128 : Nat) ^ i = p at *
      have hp2 : (128 : Nat) ^ (i + 1) = p * 128 := by rw [Nat.pow_succ, hp]
      by_cases hc : 128 ≤ c.toNat
      · have e2 : decide ((c.toNat : Int) ≥ 128) = true := decide_eq_true (by omega)
        rw [if_pos hc]
        have hmul : (c.toNat - 128) * p ≤ 127 * p := Nat.mul_le_mul_right _ (by omega)
        have e3 : IntKind.u8.wrap ((c.toNat : Int) - 128) = ((c.toNat - 128 : Nat) : Int) := by rw [w8]; omega
        have e4 : IntKind.i64.wrap (((c.toNat - 128 : Nat)) : Int) = ((c.toNat - 128 : Nat) : Int) := w64 (by omega) (by omega)
        have e5 : IntKind.i64.wrap (((c.toNat - 128 : Nat) : Int) * w) = (((c.toNat - 128) * p : Nat) : Int) := by rw [hw', ← Int.natCast_mul, w64 (by omega) (by omega)]
        have e6 : IntKind.i64.wrap ((n : Int) + (((c.toNat - 128) * p : Nat) : Int)) = ((n + (c.toNat - 128) * p : Nat) : Int) := by rw [← Int.natCast_add, w64 (by omega) (by omega)]
        have e7 : IntKind.i64.wrap ((i : Int) + 1) = ((i + 1 : Nat) : Int) := by rw [w64 (by omega) (by omega)]; rfl
        have := ih (i + 1) (n + (c.toNat - 128) * p) (IntKind.i64.wrap (w * 128)) (by omega) (by omega) (by omega) (fun h8 => by
          have h49 : p * 128 ≤ 72057594037927936 := by
            have := Nat.pow_le_pow_right (n := 128) (by omega) h8
            rw [hp2] at this; simpa using this
          rw [hp2, hw', w64 (by omega) (by omega)]; omega)
        rw [lp_round]
        simp -implicitDefEqProofs (disch := (refine id_ok ?_; first | assumption | omega | (simp [go_sem] <;> omega) | with_unfolding_all rfl | decide)) only [go_sem, Nat.reduceAdd, Nat.reduceSub, Nat.reduceMul, Nat.reduceLeDiff, Nat.reduceEqDiff, Nat.reduceBEq, reduceIte, reduceCtorEq, hd', hge, encB, e1, e2, e3, e4, e5, e6, e7]
        exact this
      · have e2 : decide ((c.toNat : Int) ≥ 128) = false := decide_eq_false (by omega)
        rw [if_neg hc]
        by_cases hz : c.toNat = 0 ∧ 0 < i
        · have e3 : ((c.toNat : Int) == 0) = true := by simp [hz.1]
          have e4 : decide ((i : Int) > 0) = true := decide_eq_true (by omega)
          rw [if_pos hz]
          right
          rw [lp_round]
          simp -implicitDefEqProofs (disch := (refine id_ok ?_; first | assumption | omega | (simp [go_sem] <;> omega) | with_unfolding_all rfl | decide)) only [go_sem, Nat.reduceAdd, Nat.reduceSub, Nat.reduceMul, Nat.reduceLeDiff, Nat.reduceEqDiff, Nat.reduceBEq, reduceIte, reduceCtorEq, hd', hge, encB, e1, e2, e3, e4]
          exact ⟨_, rfl, rfl, rfl, rfl⟩
        · rw [if_neg hz]
          have hmul : c.toNat * p ≤ 127 * p := Nat.mul_le_mul_right _ (by omega)
          have e4 : IntKind.i64.wrap (c.toNat : Int) = (c.toNat : Int) := w64 (by omega) (by omega)
          have e5 : IntKind.i64.wrap ((c.toNat : Int) * w) = ((c.toNat * p : Nat) : Int) := by rw [hw', ← Int.natCast_mul, w64 (by omega) (by omega)]
          have e6 : IntKind.i64.wrap ((n : Int) + ((c.toNat * p : Nat) : Int)) = ((n + c.toNat * p : Nat) : Int) := by rw [← Int.natCast_add, w64 (by omega) (by omega)]
          have e7 : IntKind.i64.wrap ((i : Int) + 1) = ((i + 1 : Nat) : Int) := by rw [w64 (by omega) (by omega)]; rfl
          right
          by_cases h0 : c.toNat = 0
          · have hi0 : i = 0 := by omega
            have e3 : ((c.toNat : Int) == 0) = true := by simp [h0]
            have e8 : decide ((i : Int) > 0) = false := decide_eq_false (by omega)
            rw [lp_round]
            simp -implicitDefEqProofs (disch := (refine id_ok ?_; first | assumption | omega | (simp [go_sem] <;> omega) | with_unfolding_all rfl | decide)) only [go_sem, Nat.reduceAdd, Nat.reduceSub, Nat.reduceMul, Nat.reduceLeDiff, Nat.reduceEqDiff, Nat.reduceBEq, reduceIte, reduceCtorEq, hd', hge, encB, e1, e2, e3, e4, e5, e6, e7, e8]
            exact ⟨_, rfl, rfl, rfl, rfl⟩
          · have e3 : ((c.toNat : Int) == 0) = false := by simp; omega
            rw [lp_round]
            simp -implicitDefEqProofs (disch := (refine id_ok ?_; first | assumption | omega | (simp [go_sem] <;> omega) | with_unfolding_all rfl | decide)) only [go_sem, Nat.reduceAdd, Nat.reduceSub, Nat.reduceMul, Nat.reduceLeDiff, Nat.reduceEqDiff, Nat.reduceBEq, reduceIte, reduceCtorEq, hd', hge, encB, e1, e2, e3, e4, e5, e6, e7]
            exact ⟨_, rfl, rfl, rfl, rfl⟩
theorem number_run {t : Nat} {b : List UInt8} {e : Option Int} {h : AH} (ht : h[t]? = some (Tp b e)) (hb : b.length ≤ 9223372036854775806) :
    run T 77 [.box t 0] h = some (.tup [.int .i64 (rdN 0 0 b).1, .int .i64 (rdN 0 0 b).2.1, .int .i64 (rdN 0 0 b).2.2], h) := by
  have hl := rdN_loop (h := h) hb b.length 0 0 1 (by omega) (by omega) (by simp) (fun _ => by simp)
  rw [List.drop_zero] at hl
  rw [run_code T_77]
  rcases hl with ⟨h1, h2⟩ | ⟨σ, h1, h2, h3, h4⟩
  · simp only [show ((0 : Nat) : Int) = 0 from rfl] at h2
    simp -implicitDefEqProofs (disch := (refine id_ok ?_; first | assumption | omega | (simp [go_sem] <;> omega) | with_unfolding_all rfl | decide)) only [go_sem, Nat.reduceAdd, Nat.reduceSub, Nat.reduceMul, Nat.reduceLeDiff, Nat.reduceEqDiff, Nat.reduceBEq, reduceIte, reduceCtorEq, c_tape_Tape_number, ht, Tp, List.length_map, h2, h1]
    rfl
  · simp only [show ((0 : Nat) : Int) = 0 from rfl] at h1
    simp -implicitDefEqProofs (disch := (refine id_ok ?_; first | assumption | omega | (simp [go_sem] <;> omega) | with_unfolding_all rfl | decide)) only [go_sem, Nat.reduceAdd, Nat.reduceSub, Nat.reduceMul, Nat.reduceLeDiff, Nat.reduceEqDiff, Nat.reduceBEq, reduceIte, reduceCtorEq, c_tape_Tape_number, ht, Tp, List.length_map, h1, h2, h3, h4]
theorem rdN_ok : ∀ (b : List UInt8) (n i : Nat), (rdN n i b).2.1 ≤ i + b.length ∧ ((rdN n i b).2.2 = 0 ∨ (rdN n i b).2.2 = 10 ∨ (rdN n i b).2.2 = 11)
  | [], n, i => by simp [rdN]
  | c :: r, n, i => by
    simp only [rdN]
    split
    · simp
    · split
      · have := rdN_ok r (n + (c.toNat - 128) * 128 ^ i) (i + 1)
        simp only [List.length_cons]
        exact ⟨by omega, this.2⟩
      · split
        · simp
        · simp only [List.length_cons]; exact ⟨by omega, .inl trivial⟩
abbrev TS := List UInt8 × Option Int
def Tb (s : TS) : Bx := Tp s.1 s.2
def tapN (g : Nat) (s : TS) : Nat × TS :=
  if s.2.isSome then (0, s)
  else if (rdN 0 0 s.1).2.2 ≠ 0 then (0, s.1, some ((rdN 0 0 s.1).2.2 : Nat))
  else if g < (rdN 0 0 s.1).1 then (0, s.1, some 13)
  else ((rdN 0 0 s.1).1, s.1.drop (rdN 0 0 s.1).2.1, none)
theorem tnum_run {t g : Nat} {s : TS} {h : AH} (ht : h[t]? = some (Tb s)) (hb : s.1.length ≤ 9223372036854775806) :
    run T 54 [.box t 0, .int .i64 g] h = some (.int .i64 (tapN g s).1, h.set t (Tb (tapN g s).2)) := by
  obtain ⟨b, e⟩ := s
  simp only [Tb] at ht hb ⊢
  have hsame := set_same ht
  rw [run_code T_54]
  cases e with
  | some c =>
    simp -implicitDefEqProofs (disch := (refine id_ok ?_; first | assumption | omega | (simp [go_sem] <;> omega) | with_unfolding_all rfl | decide)) only [go_sem, Nat.reduceAdd, Nat.reduceSub, Nat.reduceMul, Nat.reduceLeDiff, Nat.reduceEqDiff, Nat.reduceBEq, reduceIte, reduceCtorEq, c_tape_Tape_Number, ht, Tp, tapN, Option.isSome_some, if_true]
    simp only [Tp] at hsame
    rw [hsame]; exact ⟨rfl, rfl⟩
  | none =>
    have h1 := number_run ht hb
    obtain ⟨h2, h3⟩ := rdN_ok b 0 0
    simp only [tapN, Option.isSome_none, Bool.false_eq_true, if_false]
    by_cases he : (rdN 0 0 b).2.2 = 0
    · rw [if_neg (by omega)]
      rw [he] at h1
      generalize (rdN 0 0 b).2.1 = k at *
      generalize (rdN 0 0 b).1 = n at *
      have d1 : decide ((n : Int) < 0) = false := decide_eq_false (by omega)
      by_cases hg : g < n
      · have d2 : decide ((n : Int) > g) = true := decide_eq_true (by omega)
        have h4 := fail_run ht (c := 13) (by omega)
        rw [if_pos hg]
        simp -implicitDefEqProofs (disch := (refine id_ok ?_; first | assumption | omega | (simp [go_sem] <;> omega) | with_unfolding_all rfl | decide)) only [go_sem, Nat.reduceAdd, Nat.reduceSub, Nat.reduceMul, Nat.reduceLeDiff, Nat.reduceEqDiff, Nat.reduceBEq, reduceIte, reduceCtorEq, c_tape_Tape_Number, ht, Tp, h1, d1, d2, Option.getD_none, show (((0 : Nat) : Int) != 0) = false from rfl]
        simp only [Tp, Option.getD_none] at h4
        simp -implicitDefEqProofs (disch := (refine id_ok ?_; first | assumption | omega | (simp [go_sem] <;> omega) | with_unfolding_all rfl | decide)) only [go_sem, Nat.reduceAdd, Nat.reduceSub, Nat.reduceMul, Nat.reduceLeDiff, Nat.reduceEqDiff, Nat.reduceBEq, reduceIte, reduceCtorEq, h4]
        rfl
      · have d2 : decide ((n : Int) > g) = false := decide_eq_false (by omega)
        rw [if_neg hg]
        simp -implicitDefEqProofs (disch := (refine id_ok ?_; first | assumption | omega | (simp [go_sem] <;> omega) | with_unfolding_all rfl | decide)) only [go_sem, Nat.reduceAdd, Nat.reduceSub, Nat.reduceMul, Nat.reduceLeDiff, Nat.reduceEqDiff, Nat.reduceBEq, reduceIte, reduceCtorEq, c_tape_Tape_Number, ht, Tp, h1, d1, d2, List.map_drop, List.take_length, Int.toNat_natCast, show (((0 : Nat) : Int) != 0) = false from rfl]
    · rw [if_pos he]
      have h4 := fail_run ht (c := ((rdN 0 0 b).2.2 : Nat)) (by omega)
      simp only [Option.getD_none, Tp] at h4
      have d1 : (((rdN 0 0 b).2.2 : Int) != 0) = true := by simp; omega
      generalize (rdN 0 0 b).2.2 = ee at *
      simp -implicitDefEqProofs (disch := (refine id_ok ?_; first | assumption | omega | (simp [go_sem] <;> omega) | with_unfolding_all rfl | decide)) only [go_sem, Nat.reduceAdd, Nat.reduceSub, Nat.reduceMul, Nat.reduceLeDiff, Nat.reduceEqDiff, Nat.reduceBEq, reduceIte, reduceCtorEq, c_tape_Tape_Number, ht, Tp, h1, d1, h4]
      rfl
theorem tapN_len (g : Nat) (s : TS) : (tapN g s).2.1.length ≤ s.1.length := by
  unfold tapN
  split
  · exact Nat.le_refl _
  · split
    · exact Nat.le_refl _
    · split
      · exact Nat.le_refl _
      · simp
theorem tapN_le (g : Nat) (s : TS) : (tapN g s).1 ≤ g := by
  unfold tapN
  split
  · simp
  · split
    · simp
    · split
      · simp
      · simp; omega
def tapT (g : Nat) (s : TS) : List UInt8 × TS :=
  if s.2.isSome then ([], s)
  else if (tapN g s).2.2.isSome then ([], (tapN g s).2)
  else if (tapN g s).2.1.length < (tapN g s).1 then ([], s.1, some 11)
  else ((tapN g s).2.1.take (tapN g s).1, (tapN g s).2.1.drop (tapN g s).1, none)
theorem tapT_len (g : Nat) (s : TS) : (tapT g s).2.1.length ≤ s.1.length := by
  have := tapN_len g s
  unfold tapT
  split
  · exact Nat.le_refl _
  · split
    · exact this
    · split
      · exact Nat.le_refl _
      · simp; omega
theorem ttext_run {t g : Nat} {s : TS} {h : AH} (ht : h[t]? = some (Tb s)) (hb : s.1.length ≤ 9223372036854775806) :
    run T 82 [.box t 0, .int .i64 g] h = some (.str ⟨(tapT g s).1.toArray⟩, h.set t (Tb (tapT g s).2)) := by
  have hlt : t < h.length := (List.getElem?_eq_some_iff.1 ht).1
  have h1 := tnum_run (g := g) ht hb
  have hln := tapN_len g s
  obtain ⟨b, e⟩ := s
  simp only [Tb] at ht hb h1 ⊢
  have hsame := set_same ht
  rw [run_code T_82]
  cases e with
  | some c =>
    simp -implicitDefEqProofs (disch := (refine id_ok ?_; first | assumption | omega | (simp [go_sem] <;> omega) | with_unfolding_all rfl | decide)) only [go_sem, Nat.reduceAdd, Nat.reduceSub, Nat.reduceMul, Nat.reduceLeDiff, Nat.reduceEqDiff, Nat.reduceBEq, reduceIte, reduceCtorEq, c_tape_Tape_Text, ht, Tp, tapT, Option.isSome_some, if_true]
    simp only [Tp] at hsame
    rw [hsame]
  | none =>
    simp only [tapT, Option.isSome_none, Bool.false_eq_true, if_false]
    generalize hr : tapN g (b, none) = r at *
    obtain ⟨n, b', e'⟩ := r
    simp only at h1 hln ⊢
    cases e' with
    | some c =>
      simp only [Option.isSome_some, if_true]
      simp -implicitDefEqProofs (disch := (refine id_ok ?_; first | assumption | omega | (simp [go_sem] <;> omega) | with_unfolding_all rfl | decide)) only [go_sem, Nat.reduceAdd, Nat.reduceSub, Nat.reduceMul, Nat.reduceLeDiff, Nat.reduceEqDiff, Nat.reduceBEq, reduceIte, reduceCtorEq, c_tape_Tape_Text, ht, Tp, h1]
    | none =>
      simp only [Option.isSome_none, Bool.false_eq_true, if_false]
      by_cases hn : b'.length < n
      · have d1 : decide ((n : Int) > (b'.length : Int)) = true := decide_eq_true (by omega)
        rw [if_pos hn]
        have h4 := fail_run (t := t) (b := b) (e := none) (c := 11) (h := h.set t (Tp b none)) (by rw [List.getElem?_set_self hlt]) (by omega)
        simp only [Tp, Option.getD_none] at h4
        simp -implicitDefEqProofs (disch := (refine id_ok ?_; first | assumption | omega | (simp [go_sem] <;> omega) | with_unfolding_all rfl | decide)) only [go_sem, Nat.reduceAdd, Nat.reduceSub, Nat.reduceMul, Nat.reduceLeDiff, Nat.reduceEqDiff, Nat.reduceBEq, reduceIte, reduceCtorEq, c_tape_Tape_Text, ht, Tp, h1, List.length_map, d1, h4]
      · have d1 : decide ((n : Int) > (b'.length : Int)) = false := decide_eq_false (by omega)
        rw [if_neg hn]
        simp -implicitDefEqProofs (disch := (refine id_ok ?_; first | assumption | omega | (simp [go_sem] <;> omega) | with_unfolding_all rfl | decide)) only [go_sem, Nat.reduceAdd, Nat.reduceSub, Nat.reduceMul, Nat.reduceLeDiff, Nat.reduceEqDiff, Nat.reduceBEq, reduceIte, reduceCtorEq, c_tape_Tape_Text, ht, Tp, h1, List.length_map, d1, List.take_length, Int.toNat_natCast, List.map_drop, List.drop_zero, false_and, if_false, show Int.toNat 0 = 0 from rfl, ← List.map_take]
theorem terr_run {t : Nat} {s : TS} {h : AH} (ht : h[t]? = some (Tb s)) : run T 56 [.box t 0] h = some (er s.2, h) := by
  rw [run_code T_56]
  simp only [Tb] at ht
  simp -implicitDefEqProofs (disch := (refine id_ok ?_; first | assumption | omega | (simp [go_sem] <;> omega) | with_unfolding_all rfl | decide)) only [go_sem, Nat.reduceAdd, Nat.reduceSub, Nat.reduceMul, Nat.reduceLeDiff, Nat.reduceEqDiff, Nat.reduceBEq, reduceIte, reduceCtorEq, c_tape_Tape_Err, ht, Tp]
def tapE (s : TS) : Option Int := if s.2.isSome then s.2 else if s.1 = [] then none else some 10
theorem tend_run {t : Nat} {s : TS} {h : AH} (ht : h[t]? = some (Tb s)) : run T 57 [.box t 0] h = some (er (tapE s), h) := by
  have h1 := terr_run ht
  have h2 := fnew_run (c := 10) (h := h) (by omega)
  rw [run_code T_57]
  obtain ⟨b, e⟩ := s
  simp only [Tb] at ht h1
  cases e with
  | some c => simp -implicitDefEqProofs (disch := (refine id_ok ?_; first | assumption | omega | (simp [go_sem] <;> omega) | with_unfolding_all rfl | decide)) only [go_sem, Nat.reduceAdd, Nat.reduceSub, Nat.reduceMul, Nat.reduceLeDiff, Nat.reduceEqDiff, Nat.reduceBEq, reduceIte, reduceCtorEq, c_tape_Tape_End, h1, tapE, Option.isSome_some, if_true]
  | none =>
    simp only [tapE, Option.isSome_none, Bool.false_eq_true, if_false]
    cases b with
    | nil => simp -implicitDefEqProofs (disch := (refine id_ok ?_; first | assumption | omega | (simp [go_sem] <;> omega) | with_unfolding_all rfl | decide)) only [go_sem, Nat.reduceAdd, Nat.reduceSub, Nat.reduceMul, Nat.reduceLeDiff, Nat.reduceEqDiff, Nat.reduceBEq, reduceIte, reduceCtorEq, c_tape_Tape_End, h1, ht, Tp, List.map_nil, List.length_nil, if_true, show decide (((0 : Nat) : Int) > 0) = false from rfl]
             rfl
    | cons c b =>
      have d1 : decide ((((b.length + 1) : Nat) : Int) > 0) = true := decide_eq_true (by omega)
      simp -implicitDefEqProofs (disch := (refine id_ok ?_; first | assumption | omega | (simp [go_sem] <;> omega) | with_unfolding_all rfl | decide)) only [go_sem, Nat.reduceAdd, Nat.reduceSub, Nat.reduceMul, Nat.reduceLeDiff, Nat.reduceEqDiff, Nat.reduceBEq, reduceIte, reduceCtorEq, c_tape_Tape_End, h1, ht, Tp, List.length_map, d1, h2, List.cons_ne_nil, if_false, reduceIte]
theorem tnew_run {b : List UInt8} {h : AH} (hb : b.length < 140737488355328) : run T 18 [.sl .sh (b.map encB)] h = some (.box h.length 0, h ++ [Tb (b, none)]) := by
  have h1 := clone_run (l := b) (h := []) hb
  rw [run_code T_18]
  simp -implicitDefEqProofs (disch := (refine id_ok ?_; first | assumption | omega | (simp [go_sem] <;> omega) | with_unfolding_all rfl | decide)) only [go_sem, Nat.reduceAdd, Nat.reduceSub, Nat.reduceMul, Nat.reduceLeDiff, Nat.reduceEqDiff, Nat.reduceBEq, reduceIte, reduceCtorEq, c_tape_New, h1]
  rw [gc_keep (by simp only [AV.mr, mrL]; omega)]; rfl
end Go.Proofs.YtlcflpanellbfaaGreatDoor.L
