/- Decimals, and texts cut at dots: plain laws. -/
import Derived.Test.YtjeigcnaalleiaaDoorL22
import Derived.Lib.AtoiAllCases
set_option linter.all false
set_option maxRecDepth 100000
namespace Go.Proofs.YtjeigcnaalleiaaDoor.L
open Go.Proofs.YtjeigcnaalleiaaDoor.M Go.Proofs.YtjeigcnaalleiaaDoor.F Go.Proofs

theorem dig_nat {d : Nat} (h : d < 10) : (UInt8.ofNat (48 + d)).toNat = 48 + d := by simp; omega
theorem dec_ne (u : Nat) : Lib.decDigits u ≠ [] := by
  rw [Lib.decDigits]; split <;> simp
theorem dec_dig : ∀ u : Nat, ∀ c ∈ Lib.decDigits u, 48 ≤ c.toNat ∧ c.toNat ≤ 57 := by
  intro u
  induction u using Nat.strongRecOn with
  | _ u ih =>
    intro c hc
    rw [Lib.decDigits] at hc
    split at hc
    · rw [List.mem_singleton] at hc
      rw [hc, dig_nat (by assumption)]; omega
    · rcases List.mem_append.1 hc with hc | hc
      · exact ih (u / 10) (by omega) c hc
      · rw [List.mem_singleton] at hc
        rw [hc, dig_nat (by omega)]; omega
theorem parse_dec : ∀ (u : Nat) (rest : List UInt8), u < 10000000000 → Lib.parseUint10 0 (Lib.decDigits u ++ rest) = Lib.parseUint10 u rest := by
  intro u
  induction u using Nat.strongRecOn with
  | _ u ih =>
    intro rest hu
    rw [Lib.decDigits]
    split
    · rename_i h
      simp only [List.cons_append, List.nil_append, Lib.parseUint10, dig_nat h]
      rw [if_pos (by omega), if_neg (by omega), if_neg (by omega)]
      congr 1
      omega
    · rename_i h
      rw [List.append_assoc, ih (u / 10) (by omega) _ (by omega)]
      have hd : u % 10 < 10 := by omega
      simp only [List.cons_append, List.nil_append, Lib.parseUint10, dig_nat hd]
      rw [if_pos (by omega), if_neg (by omega), if_neg (by omega)]
      congr 1
      omega
theorem atoi_dec {u : Nat} (h : u ≤ 1048576) : Lib.atoiAll (Lib.decDigits u) = .ok (u : Int) := by
  have hp := parse_dec u [] (by omega)
  have hn := dec_ne u
  have hd := dec_dig u
  rw [List.append_nil] at hp
  cases hl : Lib.decDigits u with
  | nil => exact absurd hl hn
  | cons c r =>
    rw [hl] at hp hd
    have hc := hd c (by simp)
    rw [Lib.atoiAll_plain c r (by omega) (by omega)]
    unfold Lib.parseMag
    rw [if_neg (by simp), hp]
    simp only [Lib.parseUint10, Lib.signless]
    rw [if_neg (by omega)]
theorem itoa_nat (u : Nat) : Lib.itoa (u : Int) = Lib.decDigits u := by unfold Lib.itoa; rw [if_neg (by omega), Int.toNat_natCast]
theorem numC_dec {u : Nat} {m : Int} (h : (u : Int) ≤ m) (hm : m ≤ 1048576) : numC (Lib.itoa (u : Int)) m = ((u : Int), true) := by
  unfold numC
  rw [itoa_nat, atoi_dec (by omega)]
  simp only [Prod.mk.injEq, true_and, decide_eq_true_eq]
  exact ⟨by omega, h, itoa_nat u⟩
theorem numC_inv {s : List UInt8} {m : Int} (h : (numC s m).2 = true) : Lib.itoa (numC s m).1 = s ∧ 0 ≤ (numC s m).1 ∧ (numC s m).1 ≤ m := by
  unfold numC at h ⊢
  split at h
  · simp only [decide_eq_true_eq] at h
    exact ⟨h.2.2, h.1, h.2.1⟩
  · cases h
  · cases h
/-! ### parts -/
def joinP : List (List UInt8) → List UInt8
  | [] => []
  | [a] => a
  | a :: b :: r => a ++ 46 :: joinP (b :: r)
theorem split_join : ∀ s : List UInt8, joinP ((splitP 46 s).map (·.1)) = s
  | [] => rfl
  | b :: s => by
    have ih := split_join s
    obtain ⟨x, xs, h⟩ := splitP_hd 46 s
    rw [h] at ih
    simp only [splitP]
    split
    · rename_i hb
      rw [h, List.map_cons]
      simp only [List.map_cons, joinP, List.nil_append] at ih ⊢
      rw [ih, hb]
    · rw [h]
      simp only [List.map_cons] at ih ⊢
      cases xs with
      | nil => simp only [List.map_nil, joinP] at ih ⊢; rw [ih]
      | cons y ys => simp only [List.map_cons, joinP, List.cons_append] at ih ⊢; rw [ih]
theorem split_one {c : UInt8} : ∀ {w : List UInt8}, c ∉ w → (splitP c w).map (·.1) = [w]
  | [], _ => rfl
  | b :: w, h => by
    have ih := split_one (c := c) (w := w) (fun x => h (List.mem_cons_of_mem _ x))
    obtain ⟨x, xs, hx⟩ := splitP_hd c w
    rw [hx] at ih
    simp only [splitP]
    rw [if_neg (fun e => h (by rw [e]; simp)), hx]
    simp only [List.map_cons, List.cons.injEq] at ih ⊢
    exact ⟨by rw [ih.1]; simp, ih.2⟩
theorem split_more {c : UInt8} {s : List UInt8} : ∀ {w : List UInt8}, c ∉ w → (splitP c (w ++ c :: s)).map (·.1) = w :: (splitP c s).map (·.1)
  | [], _ => by simp [splitP]
  | b :: w, h => by
    have ih := split_more (c := c) (s := s) (w := w) (fun x => h (List.mem_cons_of_mem _ x))
    obtain ⟨x, xs, hx⟩ := splitP_hd c (w ++ c :: s)
    rw [hx] at ih
    simp only [List.cons_append, splitP]
    rw [if_neg (fun e => h (by rw [e]; simp)), hx]
    simp only [List.map_cons, List.cons.injEq] at ih ⊢
    exact ⟨by simp [ih.1], ih.2⟩
theorem itoa_nc {k : Int} (h : 0 ≤ k) {c : UInt8} (hc : c.toNat < 48) : c ∉ Lib.itoa k := by
  obtain ⟨u, rfl⟩ : ∃ u : Nat, k = u := ⟨k.toNat, by omega⟩
  rw [itoa_nat]
  intro hm
  have := dec_dig u c hm
  omega
theorem split_dots : ∀ (p : List Int), p ≠ [] → (∀ k ∈ p, 0 ≤ k) → (splitP 46 (joinP (p.map Lib.itoa))).map (·.1) = p.map Lib.itoa
  | [], h, _ => absurd rfl h
  | [a], _, h => split_one (itoa_nc (h a (by simp)) (by decide))
  | a :: b :: r, _, h => by
    simp only [List.map_cons, joinP]
    rw [split_more (itoa_nc (h a (by simp)) (by decide))]
    have := split_dots (b :: r) (by simp) fun k hk => h k (List.mem_cons_of_mem _ hk)
    simp only [List.map_cons] at this
    rw [this]
theorem joinP_join : ∀ l : List (List UInt8), joinP l = Lib.join l [46]
  | [] => rfl
  | [a] => by rw [Lib.join_one]; rfl
  | a :: b :: r => by
    rw [joinP, joinP_join (b :: r), Lib.join_cons, Lib.join_cons]
    simp [Lib.joinTail]
theorem atoi_itoa {k : Int} (h0 : 0 ≤ k) (h1 : k ≤ 1048576) : Lib.atoiAll (Lib.itoa k) = .ok k := by
  obtain ⟨u, rfl⟩ : ∃ u : Nat, k = u := ⟨k.toNat, by omega⟩
  rw [itoa_nat, atoi_dec (by omega)]
end Go.Proofs.YtjeigcnaalleiaaDoor.L
