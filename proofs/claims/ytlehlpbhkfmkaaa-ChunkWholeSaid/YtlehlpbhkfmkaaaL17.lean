/- All chunks, in any order, make the bytes again. -/
import Derived.Test.YtlehlpbhkfmkaaaL16
set_option linter.all false
set_option maxRecDepth 100000
namespace Go.Proofs.Ytlehlpbhkfmkaaa.L
open Go.Proofs.Ytlehlpbhkfmkaaa.M Go.Proofs.Ytlehlpbhkfmkaaa.F Go.Proofs

theorem fnd_none {i : Int} : ∀ {es : List (Int × List UInt8)} {k : Nat}, (∀ p ∈ es, p.1 ≠ i) → fnd i es k = none
  | [], k, _ => rfl
  | p :: es, k, h => by
    rw [fnd, if_neg (fun e => h p (by simp) e.symm)]
    exact fnd_none fun q hq => h q (by simp [hq])
theorem fnd_some {i : Int} {c : List UInt8} : ∀ {es : List (Int × List UInt8)} {k q : Nat}, es[q]? = some (i, c) → (∀ r, r < q → ∀ p, es[r]? = some p → p.1 ≠ i) → fnd i es k = some (k + q, c)
  | [], k, q, h, _ => by simp at h
  | p :: es, k, 0, h, _ => by simp at h; subst h; rw [fnd, if_pos rfl]; rfl
  | p :: es, k, q + 1, h, hn => by
    rw [fnd, if_neg (fun e => hn 0 (by omega) p (by simp) e.symm), fnd_some (es := es) (k := k + 1) (q := q) (by simpa using h) fun r hr p' hp' => hn (r + 1) (by omega) p' (by simpa using hp')]
    congr 2; omega

def jj (t N : Int) (i : Nat) : Int := ((i : Int) + t) % N
theorem jj_inj {t N : Int} (hN : 0 < N) {i k : Nat} (hi : (i : Int) < N) (hk : (k : Int) < N) (h : jj t N i = jj t N k) : i = k := by
  unfold jj at h
  have e1 := Int.emod_add_mul_ediv ((i : Int) + t) N
  have e2 := Int.emod_add_mul_ediv ((k : Int) + t) N
  rw [h] at e1
  generalize ((i : Int) + t) / N = a at *
  generalize ((k : Int) + t) / N = b at *
  rcases Int.lt_trichotomy a b with hab | hab | hab
  · have : N * (a + 1) ≤ N * b := Int.mul_le_mul_of_nonneg_left (by omega) (by omega)
    rw [Int.mul_add, Int.mul_one] at this; omega
  · subst hab; omega
  · have : N * (b + 1) ≤ N * a := Int.mul_le_mul_of_nonneg_left (by omega) (by omega)
    rw [Int.mul_add, Int.mul_one] at this; omega
theorem jj_range {t N : Int} (hN : 0 < N) (i : Nat) : 0 ≤ jj t N i ∧ jj t N i < N := ⟨Int.emod_nonneg _ (by omega), Int.emod_lt_of_pos _ hN⟩
theorem jj_surj {t N : Int} (hN : 0 < N) {j : Int} (h0 : 0 ≤ j) (h1 : j < N) : ∃ i : Nat, (i : Int) < N ∧ jj t N i = j := by
  have q0 := Int.emod_nonneg (j - t) (show N ≠ 0 by omega)
  have q1 := Int.emod_lt_of_pos (j - t) hN
  refine ⟨((j - t) % N).toNat, by omega, ?_⟩
  unfold jj
  rw [Int.toNat_of_nonneg q0, Int.emod_add_emod, Int.sub_add_cancel, Int.emod_eq_of_lt h0 h1]

/-- What is there after so many rounds. -/
def Ek (ch : Int → List UInt8) (t N : Int) (k : Nat) : List (Int × List UInt8) := (List.range k).map fun i => (jj t N i, ch (jj t N i))
theorem Ek_succ (ch : Int → List UInt8) (t N : Int) (k : Nat) : Ek ch t N (k + 1) = Ek ch t N k ++ [(jj t N k, ch (jj t N k))] := by
  simp only [Ek, List.range_succ, List.map_append, List.map_cons, List.map_nil]
theorem Ek_get (ch : Int → List UInt8) (t N : Int) {k i : Nat} (h : i < k) : (Ek ch t N k)[i]? = some (jj t N i, ch (jj t N i)) := by
  simp only [Ek, List.getElem?_map, List.getElem?_range h, Option.map_some]
theorem Ek_len (ch : Int → List UInt8) (t N : Int) (k : Nat) : (Ek ch t N k).length = k := by simp [Ek]
theorem Ek_none {ch : Int → List UInt8} {t N : Int} (hN : 0 < N) {k : Nat} (hk : (k : Int) < N) : fnd (jj t N k) (Ek ch t N k) 0 = none := by
  refine fnd_none fun p hp => ?_
  obtain ⟨i, hi, rfl⟩ := List.mem_map.1 hp
  intro e
  have := jj_inj hN (i := i) (k := k) (by have := List.mem_range.1 hi; omega) hk e
  have := List.mem_range.1 hi; omega
theorem Ek_some {ch : Int → List UInt8} {t N : Int} (hN : 0 < N) {k i : Nat} (hk : (k : Int) ≤ N) (hi : i < k) : fnd (jj t N i) (Ek ch t N k) 0 = some (i, ch (jj t N i)) := by
  have := fnd_some (k := 0) (Ek_get ch t N hi) fun r hr p hp => by
    rw [Ek_get ch t N (show r < k by omega)] at hp
    cases hp
    intro e
    have := jj_inj hN (i := r) (k := i) (by omega) (by omega) e
    omega
  rwa [Nat.zero_add] at this
theorem putE_new {ch : Int → List UInt8} {t N : Int} (hN : 0 < N) {k : Nat} (hk : (k : Int) < N) : putE (jj t N k) (ch (jj t N k)) (Ek ch t N k) = Ek ch t N (k + 1) := by
  rw [putE, Ek_none hN hk, Ek_succ]
theorem putE_old {ch : Int → List UInt8} {t N : Int} (hN : 0 < N) {k i : Nat} (hk : (k : Int) ≤ N) (hi : i < k) : putE (jj t N i) (ch (jj t N i)) (Ek ch t N k) = Ek ch t N k := by
  rw [putE, Ek_some hN hk hi]
  exact set_self (Ek_get ch t N hi)
end Go.Proofs.Ytlehlpbhkfmkaaa.L
