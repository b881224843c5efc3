/- Numbers and texts as bytes: what a pen writes. -/
import Derived.Test.YtibchilpaaiecaaGreatDoorF0
set_option linter.all false
set_option maxRecDepth 100000
namespace Go.Proofs.YtibchilpaaiecaaGreatDoor.L
open Go.Proofs.YtibchilpaaiecaaGreatDoor.M Go.Proofs.YtibchilpaaiecaaGreatDoor.F Go.Proofs
theorem w8 (n : Int) : IntKind.u8.wrap n = n % 256 := by simp [IntKind.wrap, IntKind.bits, IntKind.signed]
theorem w64 {n : Int} (h1 : -9223372036854775808 ≤ n) (h2 : n ≤ 9223372036854775807) : IntKind.i64.wrap n = n := by
  simp only [IntKind.wrap, IntKind.bits, IntKind.signed]; simp; split <;> omega
def num (n : Nat) : List UInt8 := if h : n < 128 then [UInt8.ofNat n] else UInt8.ofNat (n % 128 + 128) :: num (n / 128)
termination_by n
decreasing_by omega
def numP (n : Nat) : List UInt8 := if h : n < 128 then [] else UInt8.ofNat (n % 128 + 128) :: numP (n / 128)
termination_by n
decreasing_by omega
def numT (n : Nat) : Nat := if h : n < 128 then n else numT (n / 128)
termination_by n
decreasing_by omega
theorem num_eq (n : Nat) : num n = numP n ++ [UInt8.ofNat (numT n)] := by
  induction n using Nat.strongRecOn with
  | _ n ih =>
    by_cases h : n < 128
    · rw [num, numP, numT]; simp [h]
    · rw [num, numP, numT]; simp only [h, dite_false, List.cons_append]; rw [ih (n / 128) (by omega)]
theorem numT_lt (n : Nat) : numT n < 128 := by
  induction n using Nat.strongRecOn with
  | _ n ih =>
    rw [numT]; split
    · assumption
    · exact ih _ (by omega)
theorem numP_len (k n : Nat) (h : n < 128 ^ (k + 1)) : (numP n).length ≤ k := by
  induction k generalizing n with
  | zero => rw [numP]; simp at h; simp [h]
  | succ k ih =>
    rw [numP]; split
    · simp
    · have : n / 128 < 128 ^ (k + 1) := Nat.div_lt_of_lt_mul (by rw [Nat.pow_succ] at h; omega)
      have := ih _ this
      simp; omega
theorem num_len {n : Nat} (h : n ≤ 4611686018427387903) : (num n).length ≤ 9 := by
  rw [num_eq]
  have := numP_len 8 n (by omega)
  simp; omega
theorem stB_ow {off : Nat} {cs : List AV} {l : List (List AV)} (h1 : Nat.ble (off + 1) cs.length = true) : storeB 1 off (ow l) (some (.cells cs)) = some (.cells (ovl cs off [ow l])) := by
  have hc : (ow l).cells = [ow l] := ow_cells
  rw [stB_some h1 (by rw [hc]; rfl) (by rw [hc]; simp only [onesL, ow_one, Bool.and_true]), hc]
attribute [go_sem high] stB_ow
theorem tm128 {n : Nat} (h : n ≤ 4611686018427387903) : IntKind.u8.wrap (IntKind.i64.wrap ((n : Int).tmod 128 + 128)) = ((UInt8.ofNat (n % 128 + 128)).toNat : Int) := by
  rw [Int.tmod_eq_emod_of_nonneg (by omega), w64 (by omega) (by omega), w8]
  simp
theorem td128 {n : Nat} (h : n ≤ 4611686018427387903) : IntKind.i64.wrap ((n : Int).tdiv 128) = ((n / 128 : Nat) : Int) := by
  rw [Int.tdiv_eq_ediv_of_nonneg (by omega), w64 (by omega) (by omega)]; omega
theorem set_same {α : Type} {l : List α} {i : Nat} {x : α} (h : l[i]? = some x) : l.set i x = l := by
  obtain ⟨hi, rfl⟩ := List.getElem?_eq_some_iff.1 h; exact List.set_getElem_self hi
theorem clone_run {l : List UInt8} {h : AH} (hn : l.length < 140737488355328) : run T 80 [.sl .sh (l.map encB)] h = some (ow (l.map encB), h) := by
  rw [run_prim T_80]
  show (if szOK 1 (l.map encB) = true ∧ _ then _ else _) = _
  rw [if_pos ⟨szOK_enc, by rw [List.length_map]; omega, by rw [List.length_map]; omega⟩]
def Pn (l : List UInt8) : Bx := .cells [ow (l.map encB)]
theorem tm8 {n : Nat} (h : n < 128) : IntKind.u8.wrap (n : Int) = ((UInt8.ofNat n).toNat : Int) := by rw [w8]; simp
end Go.Proofs.YtibchilpaaiecaaGreatDoor.L
/- Numbers and texts as bytes: what a tape reads. -/
set_option linter.all false
set_option maxRecDepth 100000
namespace Go.Proofs.YtibchilpaaiecaaGreatDoor.L
open Go.Proofs.YtibchilpaaiecaaGreatDoor.M Go.Proofs.YtibchilpaaiecaaGreatDoor.F Go.Proofs
theorem gdset {σ : List AV} {i j : Nat} {v d : AV} (h : (i == j) = false) : (σ.set i v).getD j d = σ.getD j d := by
  have : i ≠ j := by simpa using h
  simp only [List.getD, List.getElem?_set_ne this]
attribute [go_sem] gdset
theorem tkl {α : Type} {l : List α} : l.take ((l.length : Int)).toNat = l := by simp
def fT (s : ByteArray) (c : Int) (b : AV) : AV := .iface 95 (.ref [.str s, .int .i64 c, b])
def er : Option Int → AV
  | none => .nili
  | some c => fT ⟨#[116, 97, 112, 101]⟩ c .nili
def Tp (b : List UInt8) (e : Option Int) : Bx := .cells [.sl .sh (b.map encB), er e]
theorem er_cells (e : Option Int) : (er e).cells = [er e] := by cases e <;> rfl
theorem er_sh (e : Option Int) : (er e).sh = er e := by cases e <;> rfl
theorem er_one (e : Option Int) : (er e).one = true := by cases e <;> rfl
theorem er_n0 : isnilV .ifc false (er none) = some (.bool true) := rfl
theorem er_n1 : isnilV .ifc true (er none) = some (.bool false) := rfl
theorem er_s0 {c : Int} : isnilV .ifc false (er (some c)) = some (.bool false) := rfl
theorem er_s1 {c : Int} : isnilV .ifc true (er (some c)) = some (.bool true) := rfl
theorem stB_er {off : Nat} {cs : List AV} {e : Option Int} (h1 : Nat.ble (off + 1) cs.length = true) : storeB 1 off (er e) (some (.cells cs)) = some (.cells (ovl cs off [er e])) := by
  have hc := er_cells e
  rw [stB_some h1 (by rw [hc]; rfl) (by rw [hc]; simp only [onesL, er_one, Bool.and_true]), hc]
attribute [go_sem] er_n0 er_n1 er_s0 er_s1 er_sh
attribute [go_sem high] stB_er er_cells
theorem wrap_nil {s : ByteArray} {c : Int} {h : AH} (hc : c ≠ 0) : run T 86 [.str s, .int .i64 c, .nili] h = some (fT s c .nili, h) := by
  have d1 : (c == 0) = false := by simpa using hc
  rw [run_code T_86]
  simp -implicitDefEqProofs (disch := (refine id_ok ?_; first | assumption | omega | (simp [go_sem] <;> omega) | with_unfolding_all rfl | decide)) only [go_sem, Nat.reduceAdd, Nat.reduceSub, Nat.reduceMul, Nat.reduceLeDiff, Nat.reduceEqDiff, Nat.reduceBEq, reduceIte, reduceCtorEq, c_fault_Wrap, d1]
  rfl
theorem fnew_run {c : Int} {h : AH} (hc : c ≠ 0) : run T 44 [.str ⟨#[116, 97, 112, 101]⟩, .int .i64 c] h = some (er (some c), h) := by
  rw [run_code T_44]
  have h1 := wrap_nil (s := ⟨#[116, 97, 112, 101]⟩) (h := h) hc
  simp -implicitDefEqProofs (disch := (refine id_ok ?_; first | assumption | omega | (simp [go_sem] <;> omega) | with_unfolding_all rfl | decide)) only [go_sem, Nat.reduceAdd, Nat.reduceSub, Nat.reduceMul, Nat.reduceLeDiff, Nat.reduceEqDiff, Nat.reduceBEq, reduceIte, reduceCtorEq, c_fault_New, h1]
  rfl
def rdN (n : Nat) (i : Nat) : List UInt8 → Nat × Nat × Nat
  | [] => (0, 0, 11)
  | c :: r => if i = 9 then (0, 0, 10) else if 128 ≤ c.toNat then rdN (n + (c.toNat - 128) * 128 ^ i) (i + 1) r else if c.toNat = 0 ∧ 0 < i then (0, 0, 10) else (n + c.toNat * 128 ^ i, i + 1, 0)
theorem rdN_ok : ∀ (b : List UInt8) (n i : Nat), (rdN n i b).2.1 ≤ i + b.length ∧ ((rdN n i b).2.2 = 0 ∨ (rdN n i b).2.2 = 10 ∨ (rdN n i b).2.2 = 11)
  | [], n, i => by simp [rdN]
  | c :: r, n, i => by
    simp only [rdN]
    split
    · simp
    · split
      · have := rdN_ok r (n + (c.toNat - 128) * 128 ^ i) (i + 1)
        simp only [List.length_cons]
        exact ⟨by omega, this.2⟩
      · split
        · simp
        · simp only [List.length_cons]; exact ⟨by omega, .inl trivial⟩
abbrev TS := List UInt8 × Option Int
def Tb (s : TS) : Bx := Tp s.1 s.2
def tapN (g : Nat) (s : TS) : Nat × TS :=
  if s.2.isSome then (0, s)
  else if (rdN 0 0 s.1).2.2 ≠ 0 then (0, s.1, some ((rdN 0 0 s.1).2.2 : Nat))
  else if g < (rdN 0 0 s.1).1 then (0, s.1, some 13)
  else ((rdN 0 0 s.1).1, s.1.drop (rdN 0 0 s.1).2.1, none)
theorem tapN_len (g : Nat) (s : TS) : (tapN g s).2.1.length ≤ s.1.length := by
  unfold tapN
  split
  · exact Nat.le_refl _
  · split
    · exact Nat.le_refl _
    · split
      · exact Nat.le_refl _
      · simp
theorem tapN_le (g : Nat) (s : TS) : (tapN g s).1 ≤ g := by
  unfold tapN
  split
  · simp
  · split
    · simp
    · split
      · simp
      · simp; omega
def tapT (g : Nat) (s : TS) : List UInt8 × TS :=
  if s.2.isSome then ([], s)
  else if (tapN g s).2.2.isSome then ([], (tapN g s).2)
  else if (tapN g s).2.1.length < (tapN g s).1 then ([], s.1, some 11)
  else ((tapN g s).2.1.take (tapN g s).1, (tapN g s).2.1.drop (tapN g s).1, none)
theorem tapT_len (g : Nat) (s : TS) : (tapT g s).2.1.length ≤ s.1.length := by
  have := tapN_len g s
  unfold tapT
  split
  · exact Nat.le_refl _
  · split
    · exact this
    · split
      · exact Nat.le_refl _
      · simp; omega
def tapE (s : TS) : Option Int := if s.2.isSome then s.2 else if s.1 = [] then none else some 10
end Go.Proofs.YtibchilpaaiecaaGreatDoor.L
