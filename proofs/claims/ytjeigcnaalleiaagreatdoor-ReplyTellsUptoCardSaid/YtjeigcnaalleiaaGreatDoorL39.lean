/- What is written is what was read. -/
import Derived.Test.YtjeigcnaalleiaaGreatDoorL34
set_option linter.all false
set_option maxRecDepth 100000
namespace Go.Proofs.YtjeigcnaalleiaaGreatDoor.L
open Go.Proofs.YtjeigcnaalleiaaGreatDoor.M Go.Proofs.YtjeigcnaalleiaaGreatDoor.F Go.Proofs

theorem rdN_inv : ∀ (l : List UInt8) (acc i v k : Nat), rdN acc i l = (v, k, 0) → ∃ m, v = acc + m * 128 ^ i ∧ i < k ∧ l.take (k - i) = num m ∧ (0 < i → m ≠ 0) ∧ k - i ≤ l.length
  | [], acc, i, v, k, h => by simp [rdN] at h
  | c :: r, acc, i, v, k, h => by
    have hcl := c.toNat_lt
    simp only [rdN] at h
    split at h
    · simp at h
    · split at h
      · rename_i h9 hc
        obtain ⟨m, h1, h2, h3, h4, h5⟩ := rdN_inv r _ (i + 1) v k h
        have hm := h4 (by omega)
        refine ⟨(c.toNat - 128) + 128 * m, ?_, by omega, ?_, fun _ => by omega, by simp; omega⟩
        · rw [h1, Nat.pow_succ, Nat.add_mul]
          have : m * (128 ^ i * 128) = 128 * m * 128 ^ i := by rw [Nat.mul_comm (128 ^ i) 128, ← Nat.mul_assoc, Nat.mul_comm m 128]
          omega
        · have e : k - i = (k - (i + 1)) + 1 := by omega
          have hn : num (c.toNat - 128 + 128 * m) = UInt8.ofNat ((c.toNat - 128 + 128 * m) % 128 + 128) :: num ((c.toNat - 128 + 128 * m) / 128) := by rw [num]; rw [dif_neg (by omega)]
          have e1 : (c.toNat - 128 + 128 * m) % 128 + 128 = c.toNat := by omega
          have e2 : (c.toNat - 128 + 128 * m) / 128 = m := by omega
          rw [e, List.take_succ_cons, h3, hn, e1, e2, UInt8.ofNat_toNat]
      · rename_i h9 hc
        split at h
        · simp at h
        · rename_i hz
          simp only [Prod.mk.injEq] at h
          obtain ⟨h1, h2, _⟩ := h
          refine ⟨c.toNat, h1.symm, by omega, ?_, fun h0 => by omega, by simp; omega⟩
          have e : k - i = 1 := by omega
          have hn : num c.toNat = [UInt8.ofNat c.toNat] := by rw [num]; rw [dif_pos (by omega)]
          rw [e, hn, UInt8.ofNat_toNat]
          rfl
theorem tapN_none {g : Nat} {s : TS} (h : (tapN g s).2.2 = none) : s.2 = none := by
  unfold tapN at h
  split at h
  · rename_i h1
    simp only at h
    rw [h] at h1; cases h1
  · rename_i h1; cases hs : s.2 with
    | none => rfl
    | some c => rw [hs] at h1; simp at h1
theorem tapN_inv {g : Nat} {s : TS} (h : (tapN g s).2.2 = none) : s.1 = num (tapN g s).1 ++ (tapN g s).2.1 := by
  have hs := tapN_none h
  obtain ⟨l, e⟩ := s
  simp only at hs
  subst hs
  unfold tapN at h ⊢
  simp only [Option.isSome_none, Bool.false_eq_true, if_false] at h ⊢
  by_cases h1 : (rdN 0 0 l).2.2 = 0
  · rw [if_neg (by omega)] at h ⊢
    obtain ⟨m, q1, q2, q3, _, _⟩ := rdN_inv l 0 0 (rdN 0 0 l).1 (rdN 0 0 l).2.1 (Prod.ext rfl (Prod.ext rfl h1))
    rw [Nat.pow_zero, Nat.mul_one, Nat.zero_add] at q1
    split at h
    · cases h
    · rename_i h2
      rw [if_neg h2]
      simp only
      rw [q1, ← q3, Nat.sub_zero, List.take_append_drop]
  · rw [if_pos h1] at h
    cases h
theorem tapT_none {g : Nat} {s : TS} (h : (tapT g s).2.2 = none) : s.2 = none := by
  unfold tapT at h
  split at h
  · rename_i h1
    simp only at h
    rw [h] at h1; cases h1
  · rename_i h1; cases hs : s.2 with
    | none => rfl
    | some c => rw [hs] at h1; simp at h1
theorem tapT_inv {g : Nat} {s : TS} (h : (tapT g s).2.2 = none) : s.1 = num (tapT g s).1.length ++ ((tapT g s).1 ++ (tapT g s).2.1) := by
  have hs := tapT_none h
  have hN := tapN_inv (g := g) (s := s)
  unfold tapT at h ⊢
  rw [hs] at h ⊢
  simp only [Option.isSome_none, Bool.false_eq_true, if_false] at h ⊢
  by_cases h1 : (tapN g s).2.2.isSome = true
  · rw [if_pos h1] at h
    simp only at h
    rw [h] at h1; cases h1
  · rw [if_neg h1] at h ⊢
    have h1' : (tapN g s).2.2 = none := by
      cases hh : (tapN g s).2.2 with
      | none => rfl
      | some c => rw [hh] at h1; simp at h1
    have hN' := hN h1'
    split at h
    · cases h
    · rename_i h2
      rw [if_neg h2]
      simp only
      rw [List.take_append_drop, List.length_take, Nat.min_eq_left (by omega)]
      exact hN'
theorem getEs_none : ∀ (k : Nat) {s : TS}, (getEs k s).2.2 = none → s.2 = none
  | 0, s, h => h
  | k + 1, s, h => tapT_none (tapN_none (getEs_none k h))
theorem getEs_inv : ∀ (k : Nat) {s : TS}, (getEs k s).2.2 = none → s.1 = (getEs k s).1.flatMap enE1 ++ (getEs k s).2.1 ∧ (getEs k s).1.length = k
  | 0, s, h => ⟨rfl, rfl⟩
  | k + 1, s, h => by
    obtain ⟨h1, h2⟩ := getEs_inv k (s := (tapN 3 (tapT 80 s).2).2) h
    have n1 := getEs_none k (s := (tapN 3 (tapT 80 s).2).2) h
    have e2 := tapN_inv n1
    have e1 := tapT_inv (tapN_none n1)
    simp only [getEs, List.length_cons, List.flatMap_cons, enE1, Int.toNat_natCast, List.append_assoc]
    refine ⟨?_, by rw [h2]⟩
    rw [← h1, ← e2]
    exact e1
theorem getK_none : ∀ (k : Nat) {s : TS}, (getK k s).2.2 = none → s.2 = none
  | 0, s, h => h
  | k + 1, s, h => tapN_none (tapN_none (tapN_none (getK_none k h)))
theorem getK_inv : ∀ (k : Nat) {s : TS}, (getK k s).2.2 = none → s.1 = (getK k s).1.flatMap enK1 ++ (getK k s).2.1
  | 0, s, h => rfl
  | k + 1, s, h => by
    have h1 := getK_inv k (s := (tapN 1048576 (tapN 5 (tapN 1048576 s).2).2).2) h
    have n1 := getK_none k (s := (tapN 1048576 (tapN 5 (tapN 1048576 s).2).2).2) h
    have e3 := tapN_inv n1
    have e2 := tapN_inv (tapN_none n1)
    have e1 := tapN_inv (tapN_none (tapN_none n1))
    simp only [getK, List.flatMap_cons, enK1, Int.toNat_natCast, List.append_assoc]
    rw [← h1, ← e3, ← e2]
    exact e1
theorem getL_inv {s : TS} (h : (getL s).2.1 = 0) : (getL s).2.2.2 = none ∧ s.1 = num (getL s).1.length ++ ((getL s).1.flatMap enE1 ++ (getL s).2.2.1) := by
  unfold getL at h ⊢
  dsimp only at h ⊢
  split at h
  · rename_i hc
    rw [if_pos hc]
    have hn : (getEs (tapN 8 s).1 (tapN 8 s).2).2.2 = none := by
      cases hh : (getEs (tapN 8 s).1 (tapN 8 s).2).2.2 with
      | none => rfl
      | some c => rw [hh] at hc; simp at hc
    obtain ⟨e1, e2⟩ := getEs_inv _ hn
    have n0 := getEs_none _ hn
    have e0 := tapN_inv n0
    dsimp only
    refine ⟨hn, ?_⟩
    rw [e2, ← e1]
    exact e0
  · simp at h
theorem getL_none {s : TS} (h : (getL s).2.2.2 = none) : s.2 = none := by
  unfold getL at h
  dsimp only at h
  split at h
  · exact tapN_none (getEs_none _ h)
  · exact tapN_none (getEs_none _ h)
/-- What is parsed is the reply's bytes. -/
theorem parR_inv {b : List UInt8} {r : Rep} (h : parR b = some r) : rigR r = true ∧ byR r = b := by
  unfold parR at h
  split at h
  · rename_i hc
    obtain ⟨c1, c2, c3⟩ := hc
    simp only [Option.some.injEq] at h
    subst h
    refine ⟨c3, ?_⟩
    clear c3
    unfold rdR at c1 c2 ⊢
    dsimp only at c1 c2
    simp only [byR, Rd1.r, Int.toNat_natCast]
    generalize he : tapN 99 (b, none) = e at *
    generalize hn : tapN 1099511627776 e.2 = n at *
    generalize htx : tapT 256 n.2 = tx at *
    generalize hct : tapT 80 tx.2 = ct at *
    generalize hlb : getL ct.2 = lb at *
    generalize hk : tapN 16 lb.2.2 = k at *
    generalize hks : getK k.1 k.2 = ks at *
    obtain ⟨z1, z2⟩ : ks.2.2 = none ∧ ks.2.1 = [] := by
      unfold tapE at c1
      split at c1
      · rename_i h1; rw [c1] at h1; cases h1
      · rename_i h1
        split at c1
        · rename_i h2
          refine ⟨?_, h2⟩
          cases hh : ks.2.2 with
          | none => rfl
          | some c => rw [hh] at h1; simp at h1
        · cases c1
    have i7 := getK_inv k.1 (s := k.2) (by rw [hks]; exact z1)
    have m6 := getK_none k.1 (s := k.2) (by rw [hks]; exact z1)
    have i6 := tapN_inv (g := 16) (s := lb.2.2) (by rw [hk]; exact m6)
    have i5 := getL_inv (s := ct.2) (by rw [hlb]; exact c2)
    have m4 := getL_none (s := ct.2) (by rw [i5.1])
    have i4 := tapT_inv (g := 80) (s := tx.2) (by rw [hct]; exact m4)
    have m3 := tapT_none (g := 80) (s := tx.2) (by rw [hct]; exact m4)
    have i3 := tapT_inv (g := 256) (s := n.2) (by rw [htx]; exact m3)
    have m2 := tapT_none (g := 256) (s := n.2) (by rw [htx]; exact m3)
    have i2 := tapN_inv (g := 1099511627776) (s := e.2) (by rw [hn]; exact m2)
    have m1 := tapN_none (g := 1099511627776) (s := e.2) (by rw [hn]; exact m2)
    have i1 := tapN_inv (g := 99) (s := (b, none)) (by rw [he]; exact m1)
    have kl := (getK_len k.1 k.2).2
    rw [hks] at i7 kl
    rw [hk] at i6
    rw [hlb] at i5
    rw [hct] at i4
    rw [htx] at i3
    rw [hn] at i2
    rw [he] at i1
    rw [z2, List.append_nil] at i7
    simp only at i1
    rw [kl, i1, i2, i3, i4, i5.2, i6, i7]
    simp only [List.append_assoc]
  · cases h
end Go.Proofs.YtjeigcnaalleiaaGreatDoor.L
