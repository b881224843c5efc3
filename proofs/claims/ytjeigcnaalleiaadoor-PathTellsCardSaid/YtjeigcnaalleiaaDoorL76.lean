/- The document's reading of a path's text: the same as the program's. -/
import Derived.Test.YtjeigcnaalleiaaDoorL72
set_option linter.all false
set_option maxRecDepth 100000
namespace Go.Proofs.YtjeigcnaalleiaaDoor.L
open Go.Proofs.YtjeigcnaalleiaaDoor.M Go.Proofs.YtjeigcnaalleiaaDoor.F Go.Proofs

def refQ : List UInt8 → Nat → Nat → List Int → Option (List Int)
  | [], n, _, p => some (p ++ [(n : Int)])
  | c :: r, n, d, p => if c = 46 then refQ r 0 0 (p ++ [(n : Int)]) else if c.toNat < 48 ∨ 57 < c.toNat ∨ 7 < d + 1 then none else refQ r (10 * n + (c.toNat - 48)) (d + 1) p
def refP (s : List UInt8) : List Int × Bool :=
  if s = [] then ([], true) else match refQ s 0 0 [] with
    | none => ([], false)
    | some q => if rigP q = true ∧ dotT q = s then (q, true) else ([], false)
theorem dec_cut (u : Nat) : Lib.decDigits u = (if u < 10 then [] else Lib.decDigits (u / 10)) ++ [UInt8.ofNat (48 + u % 10)] := by
  conv => lhs; rw [Lib.decDigits]
  split
  · rename_i h; rw [Nat.mod_eq_of_lt h]; rfl
  · rfl
theorem refQ_dec : ∀ (k u : Nat) (rest : List UInt8) (d : Nat) (p : List Int), u < 10 ^ k → 0 < k → d = 0 → k ≤ 7 → ∃ j, j ≤ k ∧ refQ (Lib.decDigits u ++ rest) 0 d p = refQ rest u j p
  | 0, u, rest, d, p, h, hk, _, _ => absurd hk (by omega)
  | k + 1, u, rest, d, p, h, hk, hd, h7 => by
    subst hd
    have hm : u % 10 < 10 := Nat.mod_lt _ (by omega)
    have hc : (UInt8.ofNat (48 + u % 10)).toNat = 48 + u % 10 := by simp; omega
    have hne : UInt8.ofNat (48 + u % 10) ≠ 46 := by
      intro q
      have := congrArg UInt8.toNat q
      rw [hc] at this
      simp at this; omega
    rw [dec_cut]
    by_cases h10 : u < 10
    · rw [if_pos h10, List.nil_append, List.cons_append, List.nil_append, refQ, if_neg hne, if_neg (by rw [hc]; omega), hc]
      refine ⟨0 + 1, by omega, ?_⟩
      congr 1
      omega
    · rw [if_neg h10, List.append_assoc]
      have hk0 : 0 < k := by
        rcases Nat.eq_zero_or_pos k with q | q
        · subst q; simp at h; omega
        · exact q
      obtain ⟨j, hj, e⟩ := refQ_dec k (u / 10) ([UInt8.ofNat (48 + u % 10)] ++ rest) 0 p (by rw [Nat.pow_succ] at h; omega) hk0 rfl (by omega)
      rw [e, List.cons_append, List.nil_append, refQ, if_neg hne, if_neg (by rw [hc]; omega), hc]
      refine ⟨j + 1, by omega, ?_⟩
      congr 1
      omega
theorem refQ_dot : ∀ (p a : List Int), p ≠ [] → (∀ k ∈ p, 0 ≤ k ∧ k ≤ 1048576) → refQ (joinP (p.map Lib.itoa)) 0 0 a = some (a ++ p)
  | [], _, h, _ => absurd rfl h
  | [k], a, _, h => by
    obtain ⟨h1, h2⟩ := h k (by simp)
    obtain ⟨u, rfl⟩ : ∃ u : Nat, k = u := ⟨k.toNat, by omega⟩
    obtain ⟨j, _, e⟩ := refQ_dec 7 u [] 0 a (by omega) (by omega) rfl (by omega)
    rw [List.append_nil] at e
    simp only [List.map_cons, List.map_nil, joinP, itoa_nat]
    rw [e]; rfl
  | k :: k2 :: p, a, _, h => by
    obtain ⟨h1, h2⟩ := h k (by simp)
    obtain ⟨u, rfl⟩ : ∃ u : Nat, k = u := ⟨k.toNat, by omega⟩
    have ih := refQ_dot (k2 :: p) (a ++ [(u : Int)]) (by simp) (fun x hx => h x (List.mem_cons_of_mem _ hx))
    obtain ⟨j, _, e⟩ := refQ_dec 7 u (46 :: joinP ((k2 :: p).map Lib.itoa)) 0 a (by omega) (by omega) rfl (by omega)
    have hj : joinP (((u : Int) :: k2 :: p).map Lib.itoa) = Lib.decDigits u ++ 46 :: joinP ((k2 :: p).map Lib.itoa) := by
      simp only [List.map_cons, joinP, itoa_nat]
    rw [hj, e, refQ, if_pos rfl, ih]
    simp
theorem refP_eq (s : List UInt8) : refP s = prsP s := by
  by_cases h0 : s = []
  · subst h0; rfl
  by_cases h : ∃ p, rigP p = true ∧ dotT p = s
  · obtain ⟨p, hr, rfl⟩ := h
    rw [prs_dot hr]
    unfold refP
    rw [if_neg h0]
    have hp : p ≠ [] := fun q => h0 (by rw [q]; rfl)
    have := refQ_dot p [] hp (rigP_all hr).2
    rw [joinP_join] at this
    unfold dotT at *
    rw [this]
    simp [hr]
  · have e1 : refP s = ([], false) := by
      unfold refP
      rw [if_neg h0]
      split
      · rfl
      · rename_i q hq
        rw [if_neg fun z => h ⟨q, z⟩]
    have e2 : prsP s = ([], false) := by
      unfold prsP
      rw [if_neg h0]
      split
      · rfl
      · rename_i q hq
        rw [if_neg fun z => h ⟨q, z⟩]
    rw [e1, e2]
end Go.Proofs.YtjeigcnaalleiaaDoor.L
