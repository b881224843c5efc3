/- The document's categories: the plain law that what they answer is what the program's answer. -/
import Derived.Test.YtlcflpanellbfaaGreatDoorL39
import Derived.Lib.AtoiAllCases
set_option linter.all false
set_option maxRecDepth 100000
namespace Go.Proofs.YtlcflpanellbfaaGreatDoor.L
open Go.Proofs.YtlcflpanellbfaaGreatDoor.M Go.Proofs.YtlcflpanellbfaaGreatDoor.F Go.Proofs
theorem dig_nat {d : Nat} (h : d < 10) : (UInt8.ofNat (48 + d)).toNat = 48 + d := by simp; omega
theorem dec_ne (u : Nat) : Lib.decDigits u ≠ [] := by
  rw [Lib.decDigits]; split <;> simp
theorem dec_dig : ∀ u : Nat, ∀ c ∈ Lib.decDigits u, 48 ≤ c.toNat ∧ c.toNat ≤ 57 := by
  intro u
  induction u using Nat.strongRecOn with
  | _ u ih =>
    intro c hc
    rw [Lib.decDigits] at hc
    split at hc
    · rw [List.mem_singleton] at hc
      rw [hc, dig_nat (by assumption)]; omega
    · rcases List.mem_append.1 hc with hc | hc
      · exact ih (u / 10) (by omega) c hc
      · rw [List.mem_singleton] at hc
        rw [hc, dig_nat (by omega)]; omega
theorem parse_dec : ∀ (u : Nat) (rest : List UInt8), u < 10000000000 → Lib.parseUint10 0 (Lib.decDigits u ++ rest) = Lib.parseUint10 u rest := by
  intro u
  induction u using Nat.strongRecOn with
  | _ u ih =>
    intro rest hu
    rw [Lib.decDigits]
    split
    · rename_i h
      simp only [List.cons_append, List.nil_append, Lib.parseUint10, dig_nat h]
      rw [if_pos (by omega), if_neg (by omega), if_neg (by omega)]
      congr 1
      omega
    · rename_i h
      rw [List.append_assoc, ih (u / 10) (by omega) _ (by omega)]
      have hd : u % 10 < 10 := by omega
      simp only [List.cons_append, List.nil_append, Lib.parseUint10, dig_nat hd]
      rw [if_pos (by omega), if_neg (by omega), if_neg (by omega)]
      congr 1
      omega
theorem atoi_dec {u : Nat} (h : u ≤ 1048576) : Lib.atoiAll (Lib.decDigits u) = .ok (u : Int) := by
  have hp := parse_dec u [] (by omega)
  have hn := dec_ne u
  have hd := dec_dig u
  rw [List.append_nil] at hp
  cases hl : Lib.decDigits u with
  | nil => exact absurd hl hn
  | cons c r =>
    rw [hl] at hp hd
    have hc := hd c (by simp)
    rw [Lib.atoiAll_plain c r (by omega) (by omega)]
    unfold Lib.parseMag
    rw [if_neg (by simp), hp]
    simp only [Lib.parseUint10, Lib.signless]
    rw [if_neg (by omega)]
theorem itoa_nat (u : Nat) : Lib.itoa (u : Int) = Lib.decDigits u := by unfold Lib.itoa; rw [if_neg (by omega), Int.toNat_natCast]
theorem numC_dec {u : Nat} {m : Int} (h : (u : Int) ≤ m) (hm : m ≤ 1048576) : numC (Lib.itoa (u : Int)) m = ((u : Int), true) := by
  unfold numC
  rw [itoa_nat, atoi_dec (by omega)]
  simp only [Prod.mk.injEq, true_and, decide_eq_true_eq]
  exact ⟨by omega, h, itoa_nat u⟩
theorem numC_inv {s : List UInt8} {m : Int} (h : (numC s m).2 = true) : Lib.itoa (numC s m).1 = s ∧ 0 ≤ (numC s m).1 ∧ (numC s m).1 ≤ m := by
  unfold numC at h ⊢
  split at h
  · simp only [decide_eq_true_eq] at h
    exact ⟨h.2.2, h.1, h.2.1⟩
  · cases h
  · cases h
def joinP : List (List UInt8) → List UInt8
  | [] => []
  | [a] => a
  | a :: b :: r => a ++ 46 :: joinP (b :: r)
theorem split_join : ∀ s : List UInt8, joinP ((splitP 46 s).map (·.1)) = s
  | [] => rfl
  | b :: s => by
    have ih := split_join s
    obtain ⟨x, xs, h⟩ := splitP_hd 46 s
    rw [h] at ih
    simp only [splitP]
    split
    · rename_i hb
      rw [h, List.map_cons]
      simp only [List.map_cons, joinP, List.nil_append] at ih ⊢
      rw [ih, hb]
    · rw [h]
      simp only [List.map_cons] at ih ⊢
      cases xs with
      | nil => simp only [List.map_nil, joinP] at ih ⊢; rw [ih]
      | cons y ys => simp only [List.map_cons, joinP, List.cons_append] at ih ⊢; rw [ih]
theorem split_one {c : UInt8} : ∀ {w : List UInt8}, c ∉ w → (splitP c w).map (·.1) = [w]
  | [], _ => rfl
  | b :: w, h => by
    have ih := split_one (c := c) (w := w) (fun x => h (List.mem_cons_of_mem _ x))
    obtain ⟨x, xs, hx⟩ := splitP_hd c w
    rw [hx] at ih
    simp only [splitP]
    rw [if_neg (fun e => h (by rw [e]; simp)), hx]
    simp only [List.map_cons, List.cons.injEq] at ih ⊢
    exact ⟨by rw [ih.1]; simp, ih.2⟩
theorem split_more {c : UInt8} {s : List UInt8} : ∀ {w : List UInt8}, c ∉ w → (splitP c (w ++ c :: s)).map (·.1) = w :: (splitP c s).map (·.1)
  | [], _ => by simp [splitP]
  | b :: w, h => by
    have ih := split_more (c := c) (s := s) (w := w) (fun x => h (List.mem_cons_of_mem _ x))
    obtain ⟨x, xs, hx⟩ := splitP_hd c (w ++ c :: s)
    rw [hx] at ih
    simp only [List.cons_append, splitP]
    rw [if_neg (fun e => h (by rw [e]; simp)), hx]
    simp only [List.map_cons, List.cons.injEq] at ih ⊢
    exact ⟨by simp [ih.1], ih.2⟩
theorem itoa_nc {k : Int} (h : 0 ≤ k) {c : UInt8} (hc : c.toNat < 48) : c ∉ Lib.itoa k := by
  obtain ⟨u, rfl⟩ : ∃ u : Nat, k = u := ⟨k.toNat, by omega⟩
  rw [itoa_nat]
  intro hm
  have := dec_dig u c hm
  omega
theorem split_dots : ∀ (p : List Int), p ≠ [] → (∀ k ∈ p, 0 ≤ k) → (splitP 46 (joinP (p.map Lib.itoa))).map (·.1) = p.map Lib.itoa
  | [], h, _ => absurd rfl h
  | [a], _, h => split_one (itoa_nc (h a (by simp)) (by decide))
  | a :: b :: r, _, h => by
    simp only [List.map_cons, joinP]
    rw [split_more (itoa_nc (h a (by simp)) (by decide))]
    have := split_dots (b :: r) (by simp) fun k hk => h k (List.mem_cons_of_mem _ hk)
    simp only [List.map_cons] at this
    rw [this]
theorem join_nc : ∀ (p : List Int), (∀ k ∈ p, 0 ≤ k) → (47 : UInt8) ∉ joinP (p.map Lib.itoa)
  | [], _ => by simp [joinP]
  | [a], h => itoa_nc (h a (by simp)) (by decide)
  | a :: b :: r, h => by
    have ih := join_nc (b :: r) fun k hk => h k (List.mem_cons_of_mem _ hk)
    have h1 := itoa_nc (h a (by simp)) (c := 47) (by decide)
    simp only [List.map_cons, joinP, List.mem_append, List.mem_cons, not_or] at ih ⊢
    exact ⟨h1, by decide, ih⟩
theorem idx_app {c : UInt8} {s : List UInt8} : ∀ {w : List UInt8}, c ∉ w → Lib.indexByte (w ++ c :: s) c = w.length
  | [], _ => by simp [Lib.indexByte]
  | b :: w, h => by
    have ih := idx_app (c := c) (s := s) (w := w) (fun x => h (List.mem_cons_of_mem _ x))
    have hb : (b == c) = false := by simpa using fun e => h (by rw [e]; simp)
    simp only [List.cons_append, Lib.indexByte, hb, ih]
    have : ((w.length : Int) == -1) = false := by simp
    simp [this]
theorem idx_at {c : UInt8} : ∀ (s : List UInt8), 0 ≤ Lib.indexByte s c → s.take (Lib.indexByte s c).toNat ++ c :: s.drop ((Lib.indexByte s c).toNat + 1) = s
  | [], h => by simp [Lib.indexByte] at h
  | b :: s, h => by
    have ih := idx_at (c := c) s
    have hg := Lib.indexByte_ge s c
    unfold Lib.indexByte at h ⊢
    split
    · rename_i hb; rw [beq_iff_eq] at hb; simp [hb]
    · rename_i hb
      rw [if_neg hb] at h
      split at h
      · omega
      · rename_i h1
        rw [if_neg h1]
        rw [beq_iff_eq] at h1
        have e : (Lib.indexByte s c + 1).toNat = (Lib.indexByte s c).toNat + 1 := by omega
        rw [e, List.take_succ_cons, List.drop_succ_cons, List.cons_append, ih (by omega)]
theorem cut_app {c : UInt8} {s w : List UInt8} (h : c ∉ w) : cutC c (w ++ c :: s) = (w, s, true) := by
  unfold cutC
  rw [idx_app h, if_pos (by omega), Int.toNat_natCast]
  simp
theorem cut_inv {c : UInt8} {s : List UInt8} (h : (cutC c s).2.2 = true) : (cutC c s).1 ++ c :: (cutC c s).2.1 = s := by
  unfold cutC at h ⊢
  split
  · rename_i hi; exact idx_at s hi
  · rename_i hi; rw [if_neg hi] at h; cases h
def fitC (p : List Int) (n : Int) : Bool := decide (0 ≤ n) && decide (n ≤ 65535) && decide (p.length ≤ 6) && p.all fun k => decide (0 ≤ k) && decide (k ≤ 1048576)
def txtC (p : List Int) (n : Int) : List UInt8 := joinP (p.map Lib.itoa) ++ 47 :: Lib.itoa n
theorem fit_iff {p : List Int} {n : Int} : fitC p n = true ↔ (0 ≤ n ∧ n ≤ 65535) ∧ p.length ≤ 6 ∧ ∀ k ∈ p, 0 ≤ k ∧ k ≤ 1048576 := by
  simp [fitC, and_assoc]
theorem pathC_inv : ∀ (l : List (List UInt8)) (a q : List Int), pathC a l = some q → ∃ p, q = a ++ p ∧ l = p.map Lib.itoa ∧ ∀ k ∈ p, 0 ≤ k ∧ k ≤ 1048576
  | [], a, q, h => ⟨[], by simpa [pathC] using h.symm, rfl, by simp⟩
  | w :: l, a, q, h => by
    simp only [pathC] at h
    split at h
    · rename_i hc
      obtain ⟨p, h1, h2, h3⟩ := pathC_inv l _ q h
      obtain ⟨k1, k2⟩ := numC_inv hc.1
      refine ⟨(numC w 1048576).1 :: p, by rw [h1]; simp, by rw [List.map_cons, k1, h2], fun k hk => ?_⟩
      rcases List.mem_cons.1 hk with rfl | hk
      · exact k2
      · exact h3 k hk
    · cases h
theorem pathC_fit : ∀ (p a : List Int), (∀ k ∈ p, 0 ≤ k ∧ k ≤ 1048576) → a.length + p.length ≤ 6 → pathC a (p.map Lib.itoa) = some (a ++ p)
  | [], a, _, _ => by simp [pathC]
  | k :: p, a, h, hl => by
    obtain ⟨h1, h2⟩ := h k (by simp)
    obtain ⟨u, rfl⟩ : ∃ u : Nat, k = u := ⟨k.toNat, by omega⟩
    simp only [List.map_cons, pathC, List.length_cons] at hl ⊢
    rw [numC_dec h2 (by omega), if_pos ⟨rfl, by omega⟩, pathC_fit p _ (fun k hk => h k (List.mem_cons_of_mem _ hk)) (by simp; omega)]
    simp
theorem parC_inv {s : List UInt8} (h : (parC s).2.2 = true) : fitC (parC s).1 (parC s).2.1 = true ∧ txtC (parC s).1 (parC s).2.1 = s := by
  have hl := parC_len s
  unfold parC at h hl ⊢
  split at h
  · rename_i hc
    rw [if_pos hc] at hl
    rw [if_pos hc]
    have hcut := cut_inv hc.1
    obtain ⟨n1, n2⟩ := numC_inv hc.2
    split at h
    · rename_i hw
      rw [if_pos hw]
      rw [hw] at hcut
      exact ⟨fit_iff.2 ⟨n2, by simp, by simp⟩, by simp only [txtC, List.map_nil, joinP, n1]; exact hcut⟩
    · rename_i hw
      rw [if_neg hw] at hl
      rw [if_neg hw]
      split at h
      · rename_i q hq
        rw [hq] at hl
        simp only at hl
        obtain ⟨p, h1, h2, h3⟩ := pathC_inv _ _ _ hq
        rw [List.nil_append] at h1
        subst h1
        refine ⟨fit_iff.2 ⟨n2, hl, h3⟩, ?_⟩
        simp only [txtC, n1]
        rw [← h2, split_join]
        exact hcut
      · cases h
  · cases h
theorem parC_bad {s : List UInt8} (h : (parC s).2.2 = false) : parC s = ([], 0, false) := by
  unfold parC at h ⊢
  split
  · rename_i hc
    rw [if_pos hc] at h
    split
    · rename_i hw; rw [if_pos hw] at h; cases h
    · rename_i hw
      rw [if_neg hw] at h
      split
      · rename_i q hq; rw [hq] at h; cases h
      · rfl
  · rfl
theorem parC_txt {p : List Int} {n : Int} (h : fitC p n = true) : parC (txtC p n) = (p, n, true) := by
  obtain ⟨⟨h1, h2⟩, h3, h4⟩ := fit_iff.1 h
  obtain ⟨u, rfl⟩ : ∃ u : Nat, n = u := ⟨n.toNat, by omega⟩
  unfold parC txtC
  rw [cut_app (join_nc p fun k hk => (h4 k hk).1)]
  simp only
  rw [numC_dec h2 (by omega), if_pos (by simp)]
  simp only
  cases p with
  | nil => rfl
  | cons a p =>
    rw [split_dots (a :: p) (by simp) fun k hk => (h4 k hk).1, pathC_fit (a :: p) [] h4 (by simpa using h3)]
    have hne : joinP ((a :: p).map Lib.itoa) ≠ [] := by
      have := h4 a (by simp)
      obtain ⟨v, rfl⟩ : ∃ v : Nat, a = v := ⟨a.toNat, by omega⟩
      have hd := dec_ne v
      cases p with
      | nil => simp only [List.map_cons, List.map_nil, joinP, itoa_nat]; exact hd
      | cons b r => simp only [List.map_cons, joinP, itoa_nat]; simp
    rw [if_neg hne]
    rfl
def scanC : List UInt8 → List Int → Nat → Nat → Option (List Int × Nat)
  | [], p, n, _ => some (p, n)
  | c :: s, p, n, d =>
    if 48 ≤ c.toNat ∧ c.toNat ≤ 57 then (if 8 ≤ d then none else scanC s p (10 * n + (c.toNat - 48)) (d + 1))
    else if c = 46 ∨ c = 47 then scanC s (if 0 < d then p ++ [(n : Int)] else p) 0 0
    else scanC s p n d
def refC (s : List UInt8) : List Int × Int × Bool :=
  match scanC s [] 0 0 with
  | some (p, n) => if fitC p n = true ∧ txtC p n = s then (p, (n : Int), true) else ([], 0, false)
  | none => ([], 0, false)
theorem scan_dec : ∀ (k u : Nat) (p : List Int) (rest : List UInt8), k ≤ 7 → u < 10 ^ (k + 1) → ∃ d, 0 < d ∧ d ≤ k + 1 ∧ scanC (Lib.decDigits u ++ rest) p 0 0 = scanC rest p u d := by
  intro k
  induction k with
  | zero =>
    intro u p rest hk hu
    have h : u < 10 := by simpa using hu
    refine ⟨1, by omega, by omega, ?_⟩
    rw [Lib.decDigits, dif_pos h]
    simp only [List.cons_append, List.nil_append, scanC, dig_nat h]
    rw [if_pos (by omega), if_neg (by omega)]
    congr 1
    omega
  | succ k ih =>
    intro u p rest hk hu
    by_cases h : u < 10
    · refine ⟨1, by omega, by omega, ?_⟩
      rw [Lib.decDigits, dif_pos h]
      simp only [List.cons_append, List.nil_append, scanC, dig_nat h]
      rw [if_pos (by omega), if_neg (by omega)]
      congr 1
      omega
    · have h2 : u / 10 < 10 ^ (k + 1) := by
        refine Nat.div_lt_of_lt_mul ?_
        rw [Nat.pow_succ] at hu; omega
      obtain ⟨d, d0, d1, hd⟩ := ih (u / 10) p (UInt8.ofNat (48 + u % 10) :: rest) (by omega) h2
      refine ⟨d + 1, by omega, by omega, ?_⟩
      rw [Lib.decDigits, dif_neg h, List.append_assoc, List.singleton_append, hd]
      have hm : u % 10 < 10 := by omega
      simp only [scanC, dig_nat hm]
      rw [if_pos (by omega), if_neg (by omega)]
      congr 1
      omega
theorem scan_sep {c : UInt8} (hc : c = 46 ∨ c = 47) {k : Int} (h0 : 0 ≤ k) (h1 : k ≤ 1048576) (p : List Int) (rest : List UInt8) : scanC (Lib.itoa k ++ c :: rest) p 0 0 = scanC rest (p ++ [k]) 0 0 := by
  obtain ⟨u, rfl⟩ : ∃ u : Nat, k = u := ⟨k.toNat, by omega⟩
  obtain ⟨d, d0, d1, hd⟩ := scan_dec 6 u p (c :: rest) (by omega) (by omega)
  rw [itoa_nat, hd]
  have hn : ¬ (48 ≤ c.toNat ∧ c.toNat ≤ 57) := by rcases hc with rfl | rfl <;> decide
  simp only [scanC]
  rw [if_neg hn, if_pos hc, if_pos d0]
theorem scan_dots : ∀ (p a : List Int) (rest : List UInt8), (∀ k ∈ p, 0 ≤ k ∧ k ≤ 1048576) → scanC (joinP (p.map Lib.itoa) ++ 47 :: rest) a 0 0 = scanC rest (a ++ p) 0 0
  | [], a, rest, _ => by
    simp only [List.map_nil, joinP, List.nil_append, List.append_nil, scanC]
    rw [if_neg (by decide), if_pos (by simp), if_neg (by omega)]
  | [k], a, rest, h => by
    simp only [List.map_cons, List.map_nil, joinP]
    exact scan_sep (.inr rfl) (h k (by simp)).1 (h k (by simp)).2 a rest
  | k :: b :: r, a, rest, h => by
    have ih := scan_dots (b :: r) (a ++ [k]) rest fun k hk => h k (List.mem_cons_of_mem _ hk)
    simp only [List.map_cons, joinP, List.append_assoc, List.cons_append, List.nil_append] at ih ⊢
    rw [scan_sep (.inl rfl) (h k (by simp)).1 (h k (by simp)).2, ih]
theorem scan_txt {p : List Int} {n : Nat} (h : fitC p n = true) : scanC (txtC p n) [] 0 0 = some (p, n) := by
  obtain ⟨⟨h1, h2⟩, h3, h4⟩ := fit_iff.1 h
  obtain ⟨d, d0, d1, hd⟩ := scan_dec 6 n p [] (by omega) (by omega)
  unfold txtC
  rw [scan_dots p [] _ h4, List.nil_append, itoa_nat]
  rw [List.append_nil] at hd
  rw [hd, scanC]
theorem refC_par (s : List UInt8) : refC s = parC s := by
  cases h : (parC s).2.2 with
  | true =>
    obtain ⟨h1, h2⟩ := parC_inv h
    have e : parC s = ((parC s).1, (parC s).2.1, true) := by rw [← h]
    rw [e]
    generalize (parC s).1 = p at *
    generalize (parC s).2.1 = n at *
    have hn := (fit_iff.1 h1).1.1
    obtain ⟨u, rfl⟩ : ∃ u : Nat, n = u := ⟨n.toNat, by omega⟩
    have hs := scan_txt h1
    rw [h2] at hs
    unfold refC
    rw [hs]
    simp only
    rw [if_pos ⟨h1, h2⟩]
  | false =>
    rw [parC_bad h]
    unfold refC
    split
    · rename_i p n hs
      split
      · rename_i hc
        have := parC_txt hc.1
        rw [hc.2] at this
        rw [this] at h
        cases h
      · rfl
    · rfl
def ahdC : List Int → Int → List Int → Int → Bool
  | [], m, [], n => decide (m < n)
  | [], _, _ :: _, _ => true
  | _ :: _, _, [], _ => false
  | a :: p, m, b :: q, n => if a = b then ahdC p m q n else decide (a < b)
theorem cmpL_ahd (m n : Int) : ∀ (p q : List Int), ((cmpL p q < 0 ∨ (cmpL p q = 0 ∧ m < n)) ↔ ahdC p m q n = true)
  | [], [] => by simp [cmpL, ahdC]
  | [], _ :: _ => by simp [cmpL, ahdC]
  | _ :: _, [] => by simp [cmpL, ahdC]
  | a :: p, b :: q => by
    have ih := cmpL_ahd m n p q
    by_cases hab : a = b
    · have e : cmpL (a :: p) (b :: q) = cmpL p q := by rw [cmpL, if_neg (by subst hab; simp [cmpI])]
      have e2 : ahdC (a :: p) m (b :: q) n = ahdC p m q n := by rw [ahdC, if_pos hab]
      rw [e, e2]; exact ih
    · have e : cmpL (a :: p) (b :: q) = cmpI a b := by
        rw [cmpL, if_pos]
        unfold cmpI
        split
        · omega
        · split <;> omega
      have e2 : ahdC (a :: p) m (b :: q) n = decide (a < b) := by rw [ahdC, if_neg hab]
      rw [e, e2, decide_eq_true_eq]
      unfold cmpI
      split
      · omega
      · split <;> omega
theorem comC_ahd {a b : List UInt8} (ha : rigC a = true) (hb : rigC b = true) : comC a b < 0 ↔ ahdC (parC a).1 (parC a).2.1 (parC b).1 (parC b).2.1 = true := by
  unfold comC
  rw [if_neg (by simp [ha]), if_neg (by simp [ha]), if_neg (by simp [hb]), ← cmpL_ahd]
  generalize cmpL (parC a).1 (parC b).1 = x
  by_cases hx : x ≠ 0
  · rw [if_pos hx]; omega
  · rw [if_neg hx]
    unfold cmpI
    split
    · omega
    · split <;> omega
end Go.Proofs.YtlcflpanellbfaaGreatDoor.L
/- The document's categories, walked. -/
set_option linter.all false
set_option maxRecDepth 100000
namespace Go.Proofs.YtlcflpanellbfaaGreatDoor.L
open Go.Proofs.YtlcflpanellbfaaGreatDoor.M Go.Proofs.YtlcflpanellbfaaGreatDoor.F Go.Proofs
theorem str_app {a b : List UInt8} : (⟨a.toArray⟩ : ByteArray) ++ (⟨b.toArray⟩ : ByteArray) = ⟨(a ++ b).toArray⟩ := by
  apply ByteArray.ext
  simp [ByteArray.data_append]
theorem str_get {a : List UInt8} {i : Nat} : (⟨a.toArray⟩ : ByteArray)[i]? = a[i]? := by
  rw [show (⟨a.toArray⟩ : ByteArray)[i]? = a.toArray[i]? from ?_]
  · simp
  · by_cases h : i < a.length
    · rw [getElem?_pos (⟨a.toArray⟩ : ByteArray) i (by simpa [ByteArray.size] using h), getElem?_pos a.toArray i (by simpa using h)]; rfl
    · rw [getElem?_neg (⟨a.toArray⟩ : ByteArray) i (by simpa [ByteArray.size] using h), getElem?_neg a.toArray i (by simpa using h)]
attribute [go_sem] str_app str_get List.size_toArray
def topD (u : Nat) : Nat := if h : u < 10 then u else topD (u / 10)
termination_by u
decreasing_by omega
def tailD (u : Nat) : List UInt8 := if h : u < 10 then [] else tailD (u / 10) ++ [UInt8.ofNat (48 + u % 10)]
termination_by u
decreasing_by omega
theorem topD_lt (u : Nat) : topD u < 10 := by
  induction u using Nat.strongRecOn with
  | _ u ih =>
    rw [topD]; split
    · assumption
    · exact ih _ (by omega)
theorem dec_top (u : Nat) : Lib.decDigits u = UInt8.ofNat (48 + topD u) :: tailD u := by
  induction u using Nat.strongRecOn with
  | _ u ih =>
    rw [Lib.decDigits, topD, tailD]
    split
    · rfl
    · rw [ih (u / 10) (by omega)]; rfl
theorem tail_len (u : Nat) (h : u ≤ 1099511627776) : (tailD u).length ≤ 13 := by
  have h1 := dec_len 12 u (by omega)
  rw [dec_top] at h1
  simp at h1; omega
theorem dslc {d : Nat} (h : d < 10) : sliceV none (.str ⟨#[48, 49, 50, 51, 52, 53, 54, 55, 56, 57]⟩) (some (some (d : Int))) (some (some ((d + 1 : Nat) : Int))) (some none) = some (.str ⟨[UInt8.ofNat (48 + d)].toArray⟩) := by
  match d, h with
  | 0, _ => rfl
  | 1, _ => rfl
  | 2, _ => rfl
  | 3, _ => rfl
  | 4, _ => rfl
  | 5, _ => rfl
  | 6, _ => rfl
  | 7, _ => rfl
  | 8, _ => rfl
  | 9, _ => rfl
  | d + 10, h => omega
theorem tm10 {n : Nat} : (n : Int).tmod 10 = ((n % 10 : Nat) : Int) := by rw [Int.tmod_eq_emod_of_nonneg (by omega)]; rfl
theorem td10 {n : Nat} (h : n ≤ 1099511627776) : IntKind.i64.wrap ((n : Int).tdiv 10) = ((n / 10 : Nat) : Int) := by
  rw [Int.tdiv_eq_ediv_of_nonneg (by omega), w64 (by omega) (by omega)]; omega
theorem inc64 {n : Nat} (h : n ≤ 9223372036854775806) : IntKind.i64.wrap ((n : Int) + 1) = ((n + 1 : Nat) : Int) := by rw [w64 (by omega) (by omega)]; rfl
theorem rnum_loop {h : AH} : ∀ (u : Nat) (r : List UInt8), u ≤ 1099511627776 → (tailD u).length + r.length ≤ 1000 →
    den T (.loop l_regencyref01_num_1) (s_regencyref01_num_1 (.int .i64 u) (.str ⟨r.toArray⟩)) h = some (.exit 2, x_regencyref01_num_2 (.int .i64 (topD u : Nat)) (.str ⟨(tailD u ++ r).toArray⟩), h) := by
  intro u
  induction u using Nat.strongRecOn with
  | _ u ih =>
    intro r hu hr
    rw [lp_round]
    by_cases hc : u < 10
    · have hd : decide ((u : Int) ≥ 10) = false := decide_eq_false (by omega)
      rw [topD, tailD]
      simp -implicitDefEqProofs (disch := (refine id_ok ?_; first | assumption | omega | (simp [go_sem] <;> omega) | with_unfolding_all rfl | decide)) only [go_sem, Nat.reduceAdd, Nat.reduceSub, Nat.reduceMul, Nat.reduceLeDiff, Nat.reduceEqDiff, Nat.reduceBEq, reduceIte, reduceCtorEq, hc, hd, dite_true, List.nil_append]
    · have hd : decide ((u : Int) ≥ 10) = true := decide_eq_true (by omega)
      have hsl := dslc (d := u % 10) (by omega)
      have hi := inc64 (n := u % 10) (by omega)
      have hq := td10 hu
      rw [tailD, dif_neg hc, List.length_append, List.length_cons, List.length_nil] at hr
      have := ih (u / 10) (by omega) (UInt8.ofNat (48 + u % 10) :: r) (by omega) (by rw [List.length_cons]; omega)
      rw [topD, tailD]
      simp only [hc, dite_false, List.append_assoc, List.singleton_append]
      have e1 : (u : Int).tmod 10 = ((u % 10 : Nat) : Int) := tm10
      simp -implicitDefEqProofs (disch := (refine id_ok ?_; first | assumption | omega | (simp [go_sem] <;> omega) | with_unfolding_all rfl | decide)) only [go_sem, Nat.reduceAdd, Nat.reduceSub, Nat.reduceMul, Nat.reduceLeDiff, Nat.reduceEqDiff, Nat.reduceBEq, reduceIte, reduceCtorEq, hd, e1, hi, hsl, hq, List.cons_append, List.nil_append]
      exact this
theorem rnum_run {u : Nat} {h : AH} (hu : u ≤ 1099511627776) : run T 101 [.int .i64 u] h = some (.str ⟨(Lib.decDigits u).toArray⟩, h) := by
  have hlp := rnum_loop (h := h) u [] hu (by have := tail_len u hu; simp; omega)
  have d1 : decide ((u : Int) < 0) = false := decide_eq_false (by omega)
  have ht := topD_lt u
  have hsl := dslc ht
  have hi := inc64 (n := topD u) (by omega)
  have htl := tail_len u hu
  rw [List.append_nil] at hlp
  rw [run_code T_101, dec_top]
  simp -implicitDefEqProofs (disch := (refine id_ok ?_; first | assumption | omega | (simp [go_sem] <;> omega) | with_unfolding_all rfl | decide)) only [go_sem, Nat.reduceAdd, Nat.reduceSub, Nat.reduceMul, Nat.reduceLeDiff, Nat.reduceEqDiff, Nat.reduceBEq, reduceIte, reduceCtorEq, c_regencyref01_num, d1, hlp, hi, hsl, List.cons_append, List.nil_append]
theorem rnumE_run {u : Nat} {h : AH} (hu : u ≤ 1099511627776) : run T 92 [.int .i64 u] h = some (.str ⟨(Lib.decDigits u).toArray⟩, h) := by
  have h1 := rnum_run (h := []) hu
  rw [run_code T_92]
  simp -implicitDefEqProofs (disch := (refine id_ok ?_; first | assumption | omega | (simp [go_sem] <;> omega) | with_unfolding_all rfl | decide)) only [go_sem, Nat.reduceAdd, Nat.reduceSub, Nat.reduceMul, Nat.reduceLeDiff, Nat.reduceEqDiff, Nat.reduceBEq, reduceIte, reduceCtorEq, c_regencyref01_Num, h1]
def dotsF : Bool → List Int → List UInt8
  | _, [] => []
  | b, k :: p => (if b then [46] else []) ++ (Lib.itoa k ++ dotsF true p)
theorem dotsF_join : ∀ (p : List Int), dotsF false p = joinP (p.map Lib.itoa) ∧ (p ≠ [] → dotsF true p = 46 :: joinP (p.map Lib.itoa))
  | [] => ⟨rfl, fun h => absurd rfl h⟩
  | [k] => ⟨by simp [dotsF, joinP], fun _ => by simp [dotsF, joinP]⟩
  | k :: b :: r => by
    obtain ⟨h1, h2⟩ := dotsF_join (b :: r)
    have h3 := h2 (by simp)
    have e : ∀ x, dotsF x (k :: b :: r) = (if x then [46] else []) ++ (Lib.itoa k ++ dotsF true (b :: r)) := fun x => rfl
    refine ⟨?_, fun _ => ?_⟩
    · rw [e, h3]; simp [joinP]
    · rw [e, h3]; simp [joinP]
theorem dec_len7 {u : Nat} (h : u ≤ 1048576) : (Lib.decDigits u).length ≤ 7 := dec_len 6 u (by omega)
theorem txt5_loop {h : AH} {v1 : AV} {p : List Int} (hp : ∀ k ∈ p, 0 ≤ k ∧ k ≤ 1048576) (hl : p.length ≤ 6) : ∀ (d i : Nat) (a : List UInt8), d + i = p.length → a.length ≤ 8 * i →
    den T (.loop l_regencyref05_Text_0) (s_regencyref05_Text_0 v1 (.str ⟨a.toArray⟩) (.sl .sh (p.map encI)) (.int .i64 p.length) (.int .i64 i)) h = some (.exit 0, x_regencyref05_Text_0 v1 (.str ⟨(a ++ dotsF (decide (0 < i)) (p.drop i)).toArray⟩), h) := by
  intro d
  induction d with
  | zero =>
    intro i a hd ha
    have hd' : decide ((i : Int) < p.length) = false := decide_eq_false (by omega)
    rw [List.drop_eq_nil_of_le (by omega), dotsF, List.append_nil]
    rw [lp_round]
    simp -implicitDefEqProofs (disch := (refine id_ok ?_; first | assumption | omega | (simp [go_sem] <;> omega) | with_unfolding_all rfl | decide)) only [go_sem, Nat.reduceAdd, Nat.reduceSub, Nat.reduceMul, Nat.reduceLeDiff, Nat.reduceEqDiff, Nat.reduceBEq, reduceIte, reduceCtorEq, hd']
  | succ d ih =>
    intro i a hd ha
    have hib : i < p.length := by omega
    have hd' : decide ((i : Int) < p.length) = true := decide_eq_true (by omega)
    have hge : (p.map encI)[(i : Int).toNat]? = some (encI p[i]) := by simp [hib]
    have hdr : p.drop i = p[i] :: p.drop (i + 1) := List.drop_eq_getElem_cons hib
    have hcl := hp p[i] (by simp)
    rw [hdr]
    generalize p[i] = k at *
    obtain ⟨u, rfl⟩ : ∃ u : Nat, k = u := ⟨k.toNat, by omega⟩
    have hn := rnumE_run (u := u) (h := []) (by omega)
    have h7 := dec_len7 (u := u) (by omega)
    have e7 := inc64 (n := i) (by omega)
    by_cases h0 : i = 0
    · have e4 : decide ((i : Int) > 0) = false := decide_eq_false (by omega)
      have e5 : decide (0 < i) = false := decide_eq_false (by omega)
      have e6 : decide (0 < i + 1) = true := decide_eq_true (by omega)
      have ih' := ih (i + 1) (a ++ Lib.decDigits u) (by omega) (by simp only [List.length_append]; omega)
      rw [e6] at ih'
      rw [e5]
      simp only [dotsF, Bool.false_eq_true, if_false, List.nil_append, itoa_nat]
      simp only [List.append_assoc] at ih'
      rw [lp_round]
      simp -implicitDefEqProofs (disch := (refine id_ok ?_; first | assumption | omega | (simp [go_sem] <;> omega) | with_unfolding_all rfl | decide)) only [go_sem, Nat.reduceAdd, Nat.reduceSub, Nat.reduceMul, Nat.reduceLeDiff, Nat.reduceEqDiff, Nat.reduceBEq, reduceIte, reduceCtorEq, hd', hge, encI, e4, hn, e7]
      exact ih'
    · have e4 : decide ((i : Int) > 0) = true := decide_eq_true (by omega)
      have e5 : decide (0 < i) = true := decide_eq_true (by omega)
      have e6 : decide (0 < i + 1) = true := decide_eq_true (by omega)
      have ih' := ih (i + 1) (a ++ [46] ++ Lib.decDigits u) (by omega) (by simp only [List.length_append, List.length_cons, List.length_nil]; omega)
      rw [e6] at ih'
      rw [e5]
      simp only [dotsF, if_true, itoa_nat]
      simp only [List.append_assoc] at ih'
      rw [lp_round]
      simp -implicitDefEqProofs (disch := (refine id_ok ?_; first | assumption | omega | (simp [go_sem] <;> omega) | with_unfolding_all rfl | decide)) only [go_sem, Nat.reduceAdd, Nat.reduceSub, Nat.reduceMul, Nat.reduceLeDiff, Nat.reduceEqDiff, Nat.reduceBEq, reduceIte, reduceCtorEq, hd', hge, encI, e4, hn, e7, List.length_append, List.length_cons, List.length_nil]
      exact ih'
theorem txt5_run {p : List Int} {n : Int} (h : fitC p n = true) : run T 64 [.agg [.sl .sh (p.map encI), .int .i64 n]] [] = some (.str ⟨(txtC p n).toArray⟩, []) := by
  obtain ⟨⟨h1, h2⟩, h3, h4⟩ := fit_iff.1 h
  obtain ⟨u, rfl⟩ : ∃ u : Nat, n = u := ⟨n.toNat, by omega⟩
  have hlp := txt5_loop (h := [.cells [.sl .sh (p.map encI), .int .i64 u]]) (v1 := .box 0 0) h4 h3 p.length 0 [] (by omega) (by simp)
  rw [List.drop_zero, List.nil_append, show decide (0 < 0) = false from rfl, (dotsF_join p).1] at hlp
  simp only [show ((0 : Nat) : Int) = 0 from rfl] at hlp
  have hn := rnumE_run (u := u) (h := []) (by omega)
  have h7 := dec_len7 (u := u) (by omega)
  have hj : (joinP (p.map Lib.itoa)).length ≤ 1000 := by
    have : ∀ q : List Int, (∀ k ∈ q, 0 ≤ k ∧ k ≤ 1048576) → (dotsF true q).length ≤ 8 * q.length ∧ (dotsF false q).length ≤ 8 * q.length := by
      intro q
      induction q with
      | nil => intro _; simp [dotsF]
      | cons k q ih =>
        intro hq
        have i1 := ih fun k hk => hq k (List.mem_cons_of_mem _ hk)
        have hk := hq k (by simp)
        obtain ⟨v, rfl⟩ : ∃ v : Nat, k = v := ⟨k.toNat, by omega⟩
        have := dec_len7 (u := v) (by omega)
        simp only [dotsF, itoa_nat, List.length_append, if_true, Bool.false_eq_true, if_false, List.length_cons, List.length_nil]
        omega
    have := (this p h4).2
    rw [(dotsF_join p).1] at this
    omega
  rw [run_code T_64]
  unfold txtC
  rw [itoa_nat]
  simp -implicitDefEqProofs (disch := (refine id_ok ?_; first | assumption | omega | (simp [go_sem] <;> omega) | with_unfolding_all rfl | decide)) only [go_sem, Nat.reduceAdd, Nat.reduceSub, Nat.reduceMul, Nat.reduceLeDiff, Nat.reduceEqDiff, Nat.reduceBEq, reduceIte, reduceCtorEq, c_regencyref05_Text, List.length_map, hlp, hn, List.length_append, List.length_cons, List.length_nil]
theorem fit_loop {h : AH} {p : List Int} (hl : p.length ≤ 6) : ∀ (d i : Nat), d + i = p.length →
    ((p.drop i).all (fun k => decide (0 ≤ k) && decide (k ≤ 1048576)) = true ∧ den T (.loop l_regencyref05_Fits_0) (s_regencyref05_Fits_0 (.sl .sh (p.map encI)) (.int .i64 p.length) (.int .i64 i)) h = some (.exit 0, x_regencyref05_Fits_0, h)) ∨
    ∃ σ, den T (.loop l_regencyref05_Fits_0) (s_regencyref05_Fits_0 (.sl .sh (p.map encI)) (.int .i64 p.length) (.int .i64 i)) h = some (.ret, σ, h) ∧ σ.getD 2 undefA = .bool false ∧ (p.drop i).all (fun k => decide (0 ≤ k) && decide (k ≤ 1048576)) = false := by
  intro d
  induction d with
  | zero =>
    intro i hd
    have hd' : decide ((i : Int) < p.length) = false := decide_eq_false (by omega)
    refine .inl ⟨by rw [List.drop_eq_nil_of_le (by omega)]; rfl, ?_⟩
    rw [lp_round]
    simp -implicitDefEqProofs (disch := (refine id_ok ?_; first | assumption | omega | (simp [go_sem] <;> omega) | with_unfolding_all rfl | decide)) only [go_sem, Nat.reduceAdd, Nat.reduceSub, Nat.reduceMul, Nat.reduceLeDiff, Nat.reduceEqDiff, Nat.reduceBEq, reduceIte, reduceCtorEq, hd']
  | succ d ih =>
    intro i hd
    have hib : i < p.length := by omega
    have hd' : decide ((i : Int) < p.length) = true := decide_eq_true (by omega)
    have hge : (p.map encI)[(i : Int).toNat]? = some (encI p[i]) := by simp [hib]
    have hdr : p.drop i = p[i] :: p.drop (i + 1) := List.drop_eq_getElem_cons hib
    have e7 := inc64 (n := i) (by omega)
    have ih' := ih (i + 1) (by omega)
    rw [hdr, List.all_cons]
    generalize p[i] = k at *
    by_cases h1 : k < 0
    · have e1 : decide (k < 0) = true := decide_eq_true h1
      have e2 : decide (0 ≤ k) = false := decide_eq_false (by omega)
      right
      rw [e2]
      rw [lp_round]
      simp -implicitDefEqProofs (disch := (refine id_ok ?_; first | assumption | omega | (simp [go_sem] <;> omega) | with_unfolding_all rfl | decide)) only [go_sem, Nat.reduceAdd, Nat.reduceSub, Nat.reduceMul, Nat.reduceLeDiff, Nat.reduceEqDiff, Nat.reduceBEq, reduceIte, reduceCtorEq, hd', hge, encI, e1]
      exact ⟨_, rfl, rfl, rfl⟩
    · have e1 : decide (k < 0) = false := decide_eq_false h1
      have e2 : decide (0 ≤ k) = true := decide_eq_true (by omega)
      by_cases h2 : k > 1048576
      · have e3 : decide (k > 1048576) = true := decide_eq_true h2
        have e4 : decide (k ≤ 1048576) = false := decide_eq_false (by omega)
        right
        rw [e2, e4]
        rw [lp_round]
        simp -implicitDefEqProofs (disch := (refine id_ok ?_; first | assumption | omega | (simp [go_sem] <;> omega) | with_unfolding_all rfl | decide)) only [go_sem, Nat.reduceAdd, Nat.reduceSub, Nat.reduceMul, Nat.reduceLeDiff, Nat.reduceEqDiff, Nat.reduceBEq, reduceIte, reduceCtorEq, hd', hge, encI, e1, e3]
        exact ⟨_, rfl, rfl, rfl⟩
      · have e3 : decide (k > 1048576) = false := decide_eq_false h2
        have e4 : decide (k ≤ 1048576) = true := decide_eq_true (by omega)
        rw [e2, e4, Bool.true_and, Bool.true_and]
        rw [lp_round]
        simp -implicitDefEqProofs (disch := (refine id_ok ?_; first | assumption | omega | (simp [go_sem] <;> omega) | with_unfolding_all rfl | decide)) only [go_sem, Nat.reduceAdd, Nat.reduceSub, Nat.reduceMul, Nat.reduceLeDiff, Nat.reduceEqDiff, Nat.reduceBEq, reduceIte, reduceCtorEq, hd', hge, encI, e1, e3, e7]
        exact ih'
theorem fit_run {p : List Int} {n : Int} : run T 63 [.agg [.sl .sh (p.map encI), .int .i64 n]] [] = some (.bool (fitC p n), []) := by
  rw [run_code T_63]
  unfold fitC
  by_cases h1 : n < 0
  · have e1 : decide (n < 0) = true := decide_eq_true h1
    have e2 : decide (0 ≤ n) = false := decide_eq_false (by omega)
    rw [e2]
    simp -implicitDefEqProofs (disch := (refine id_ok ?_; first | assumption | omega | (simp [go_sem] <;> omega) | with_unfolding_all rfl | decide)) only [go_sem, Nat.reduceAdd, Nat.reduceSub, Nat.reduceMul, Nat.reduceLeDiff, Nat.reduceEqDiff, Nat.reduceBEq, reduceIte, reduceCtorEq, c_regencyref05_Fits, e1]
    rfl
  · have e1 : decide (n < 0) = false := decide_eq_false h1
    have e2 : decide (0 ≤ n) = true := decide_eq_true (by omega)
    rw [e2]
    by_cases h2 : n > 65535
    · have e3 : decide (n > 65535) = true := decide_eq_true h2
      have e4 : decide (n ≤ 65535) = false := decide_eq_false (by omega)
      rw [e4]
      simp -implicitDefEqProofs (disch := (refine id_ok ?_; first | assumption | omega | (simp [go_sem] <;> omega) | with_unfolding_all rfl | decide)) only [go_sem, Nat.reduceAdd, Nat.reduceSub, Nat.reduceMul, Nat.reduceLeDiff, Nat.reduceEqDiff, Nat.reduceBEq, reduceIte, reduceCtorEq, c_regencyref05_Fits, e1, e3]
      rfl
    · have e3 : decide (n > 65535) = false := decide_eq_false h2
      have e4 : decide (n ≤ 65535) = true := decide_eq_true (by omega)
      rw [e4]
      by_cases h3 : p.length ≤ 6
      · have e5 : decide ((p.length : Int) > 6) = false := decide_eq_false (by omega)
        rw [decide_eq_true h3]
        have hlp := fit_loop (h := [.cells [.sl .sh (p.map encI), .int .i64 n]]) h3 p.length 0 (by omega)
        simp only [List.drop_zero, show ((0 : Nat) : Int) = 0 from rfl] at hlp
        rcases hlp with ⟨k1, k2⟩ | ⟨σ, k1, k2, k3⟩
        · rw [k1]
          simp -implicitDefEqProofs (disch := (refine id_ok ?_; first | assumption | omega | (simp [go_sem] <;> omega) | with_unfolding_all rfl | decide)) only [go_sem, Nat.reduceAdd, Nat.reduceSub, Nat.reduceMul, Nat.reduceLeDiff, Nat.reduceEqDiff, Nat.reduceBEq, reduceIte, reduceCtorEq, c_regencyref05_Fits, e1, e3, List.length_map, e5, k2]
        · rw [k3]
          simp -implicitDefEqProofs (disch := (refine id_ok ?_; first | assumption | omega | (simp [go_sem] <;> omega) | with_unfolding_all rfl | decide)) only [go_sem, Nat.reduceAdd, Nat.reduceSub, Nat.reduceMul, Nat.reduceLeDiff, Nat.reduceEqDiff, Nat.reduceBEq, reduceIte, reduceCtorEq, c_regencyref05_Fits, e1, e3, List.length_map, e5, k1, k2]
      · have e5 : decide ((p.length : Int) > 6) = true := decide_eq_true (by omega)
        rw [decide_eq_false h3]
        simp -implicitDefEqProofs (disch := (refine id_ok ?_; first | assumption | omega | (simp [go_sem] <;> omega) | with_unfolding_all rfl | decide)) only [go_sem, Nat.reduceAdd, Nat.reduceSub, Nat.reduceMul, Nat.reduceLeDiff, Nat.reduceEqDiff, Nat.reduceBEq, reduceIte, reduceCtorEq, c_regencyref05_Fits, e1, e3, List.length_map, e5]
        rfl
end Go.Proofs.YtlcflpanellbfaaGreatDoor.L
/- The document's categories: how a name is read; which is ahead. -/
set_option linter.all false
set_option maxRecDepth 100000
namespace Go.Proofs.YtlcflpanellbfaaGreatDoor.L
open Go.Proofs.YtlcflpanellbfaaGreatDoor.M Go.Proofs.YtlcflpanellbfaaGreatDoor.F Go.Proofs
def HG (p : List Int) : AH := [.cells [ow [], .int .i64 0], .cells [ow (p.map encI), .int .i64 0]]
theorem u8sub {c : Nat} (h0 : 48 ≤ c) (h1 : c ≤ 57) : IntKind.u8.wrap ((c : Int) - 48) = ((c - 48 : Nat) : Int) := by rw [w8]; omega
set_option maxHeartbeats 4000000 in
theorem scan_loop {s : List UInt8} (hs : s.length ≤ 1000000000) : ∀ (k i : Nat) (p : List Int) (n d : Nat), k + i = s.length → d ≤ 8 → n < 10 ^ d → p.length ≤ i →
    (∃ p' n', scanC (s.drop i) p n d = some (p', n') ∧ den T (.loop l_regencyref05_Get_0) (s_regencyref05_Get_0 (.str ⟨s.toArray⟩) (.box 0 0) (.box 1 0) (.int .i64 n) (.int .i64 d) (.int .i64 i)) (HG p) = some (.exit 0, x_regencyref05_Get_0 (.str ⟨s.toArray⟩) (.box 0 0) (.box 1 0) (.int .i64 n'), HG p')) ∨
    (scanC (s.drop i) p n d = none ∧ ∃ σ p', den T (.loop l_regencyref05_Get_0) (s_regencyref05_Get_0 (.str ⟨s.toArray⟩) (.box 0 0) (.box 1 0) (.int .i64 n) (.int .i64 d) (.int .i64 i)) (HG p) = some (.ret, σ, HG p') ∧ σ.getD 2 undefA = .box 0 0 ∧ σ.getD 3 undefA = .bool false) := by
  intro k
  induction k with
  | zero =>
    intro i p n d hk hd hn hp
    have hd' : decide ((i : Int) < s.length) = false := decide_eq_false (by omega)
    refine .inl ⟨p, n, by rw [List.drop_eq_nil_of_le (by omega)]; rfl, ?_⟩
    rw [lp_round]
    simp -implicitDefEqProofs (disch := (refine id_ok ?_; first | assumption | omega | (simp [go_sem] <;> omega) | with_unfolding_all rfl | decide)) only [go_sem, Nat.reduceAdd, Nat.reduceSub, Nat.reduceMul, Nat.reduceLeDiff, Nat.reduceEqDiff, Nat.reduceBEq, reduceIte, reduceCtorEq, hd']
  | succ k ih =>
    intro i p n d hk hd hn hp
    have hib : i < s.length := by omega
    have hd' : decide ((i : Int) < s.length) = true := decide_eq_true (by omega)
    have hge : s[(i : Int).toNat]? = some s[i] := by simp [hib]
    have hdr : s.drop i = s[i] :: s.drop (i + 1) := List.drop_eq_getElem_cons hib
    have e7 := inc64 (n := i) (by omega)
    rw [hdr]
    generalize s[i] = c at *
    have hcl := c.toNat_lt
    have h8 : n < 100000000 := Nat.lt_of_lt_of_le hn (Nat.pow_le_pow_right (n := 10) (by omega) hd)
    have e8 := inc64 (n := d) (by omega)
    by_cases hdig : 48 ≤ c.toNat ∧ c.toNat ≤ 57
    · have e1 : decide ((c.toNat : Int) ≥ 48) = true := decide_eq_true (by omega)
      have e2 : decide ((c.toNat : Int) ≤ 57) = true := decide_eq_true (by omega)
      simp only [scanC]
      rw [if_pos hdig]
      by_cases h9 : 8 ≤ d
      · have e3 : decide (((d + 1 : Nat) : Int) > 8) = true := decide_eq_true (by omega)
        rw [if_pos h9]
        right
        refine ⟨rfl, ?_⟩
        rw [lp_round]
        simp -implicitDefEqProofs (disch := (refine id_ok ?_; first | assumption | omega | (simp [go_sem] <;> omega) | with_unfolding_all rfl | decide)) only [go_sem, Nat.reduceAdd, Nat.reduceSub, Nat.reduceMul, Nat.reduceLeDiff, Nat.reduceEqDiff, Nat.reduceBEq, reduceIte, reduceCtorEq, HG, hd', hge, e1, e2, e8, e3]
        exact ⟨_, p, ⟨rfl, rfl⟩, rfl, rfl⟩
      · have e3 : decide (((d + 1 : Nat) : Int) > 8) = false := decide_eq_false (by omega)
        have e4 := u8sub hdig.1 hdig.2
        have e5 : IntKind.i64.wrap ((c.toNat - 48 : Nat) : Int) = ((c.toNat - 48 : Nat) : Int) := w64 (by omega) (by omega)
        have e6 : IntKind.i64.wrap (10 * (n : Int)) = ((10 * n : Nat) : Int) := by rw [w64 (by omega) (by omega)]; omega
        have e9 : IntKind.i64.wrap (((10 * n : Nat) : Int) + ((c.toNat - 48 : Nat) : Int)) = ((10 * n + (c.toNat - 48) : Nat) : Int) := by rw [← Int.natCast_add, w64 (by omega) (by omega)]
        rw [if_neg h9]
        have hp10 : 10 ^ (d + 1) = 10 ^ d * 10 := Nat.pow_succ ..
        have := ih (i + 1) p (10 * n + (c.toNat - 48)) (d + 1) (by omega) (by omega) (by omega) (by omega)
        have hstep : den T (.loop l_regencyref05_Get_0) (s_regencyref05_Get_0 (.str ⟨s.toArray⟩) (.box 0 0) (.box 1 0) (.int .i64 n) (.int .i64 d) (.int .i64 i)) (HG p) = den T (.loop l_regencyref05_Get_0) (s_regencyref05_Get_0 (.str ⟨s.toArray⟩) (.box 0 0) (.box 1 0) (.int .i64 (10 * n + (c.toNat - 48) : Nat)) (.int .i64 (d + 1 : Nat)) (.int .i64 (i + 1 : Nat))) (HG p) := by
          rw [lp_round]
          simp -implicitDefEqProofs (disch := (refine id_ok ?_; first | assumption | omega | (simp [go_sem] <;> omega) | with_unfolding_all rfl | decide)) only [go_sem, Nat.reduceAdd, Nat.reduceSub, Nat.reduceMul, Nat.reduceLeDiff, Nat.reduceEqDiff, Nat.reduceBEq, reduceIte, reduceCtorEq, HG, hd', hge, e1, e2, e8, e3, e4, e5, e6, e9, e7]
          rfl
        rw [hstep]
        exact this
    · simp only [scanC]
      rw [if_neg hdig]
      have hno : ∃ b1 b2 : Bool, decide ((c.toNat : Int) ≥ 48) = b1 ∧ decide ((c.toNat : Int) ≤ 57) = b2 ∧ (b1 = false ∨ (b1 = true ∧ b2 = false)) := by
        refine ⟨_, _, rfl, rfl, ?_⟩
        by_cases h1 : 48 ≤ c.toNat
        · right; exact ⟨decide_eq_true (by omega), decide_eq_false (by omega)⟩
        · left; exact decide_eq_false (by omega)
      obtain ⟨b1, b2, e1, e2, hb⟩ := hno
      have key : ∀ (q : List Int) (m d' : Nat), scanC (s.drop (i + 1)) q m d' = scanC (s.drop (i + 1)) q m d' → q.length ≤ i + 1 → d' ≤ 8 → m < 10 ^ d' →
          den T (.loop l_regencyref05_Get_0) (s_regencyref05_Get_0 (.str ⟨s.toArray⟩) (.box 0 0) (.box 1 0) (.int .i64 n) (.int .i64 d) (.int .i64 i)) (HG p) = den T (.loop l_regencyref05_Get_0) (s_regencyref05_Get_0 (.str ⟨s.toArray⟩) (.box 0 0) (.box 1 0) (.int .i64 m) (.int .i64 d') (.int .i64 (i + 1 : Nat))) (HG q) →
          (∃ p' n', scanC (s.drop (i + 1)) q m d' = some (p', n') ∧ den T (.loop l_regencyref05_Get_0) (s_regencyref05_Get_0 (.str ⟨s.toArray⟩) (.box 0 0) (.box 1 0) (.int .i64 n) (.int .i64 d) (.int .i64 i)) (HG p) = some (.exit 0, x_regencyref05_Get_0 (.str ⟨s.toArray⟩) (.box 0 0) (.box 1 0) (.int .i64 n'), HG p')) ∨
          (scanC (s.drop (i + 1)) q m d' = none ∧ ∃ σ p', den T (.loop l_regencyref05_Get_0) (s_regencyref05_Get_0 (.str ⟨s.toArray⟩) (.box 0 0) (.box 1 0) (.int .i64 n) (.int .i64 d) (.int .i64 i)) (HG p) = some (.ret, σ, HG p') ∧ σ.getD 2 undefA = .box 0 0 ∧ σ.getD 3 undefA = .bool false) := by
        intro q m d' _ hq hd2 hm hstep
        rw [hstep]
        exact ih (i + 1) q m d' (by omega) hd2 hm hq
      by_cases h46 : c = 46 ∨ c = 47
      · rw [if_pos h46]
        have hf : ∃ f1 f2 : Bool, ((c.toNat : Int) == 46) = f1 ∧ ((c.toNat : Int) == 47) = f2 ∧ (f1 = true ∨ (f1 = false ∧ f2 = true)) := by
          refine ⟨_, _, rfl, rfl, ?_⟩
          rcases h46 with rfl | rfl
          · left; rfl
          · right; exact ⟨rfl, rfl⟩
        obtain ⟨f1, f2, g1, g2, hf⟩ := hf
        by_cases h0 : 0 < d
        · have e3 : decide ((d : Int) > 0) = true := decide_eq_true (by omega)
          rw [if_pos h0]
          refine key (p ++ [(n : Int)]) 0 0 rfl (by simp; omega) (by omega) (by simp) ?_
          have e9 : (p ++ [(n : Int)]).map encI = p.map encI ++ [[.int .i64 (n : Int)]] := by simp [encI]
          rcases hb with rfl | ⟨rfl, rfl⟩ <;> rcases hf with rfl | ⟨rfl, rfl⟩ <;>
          · rw [lp_round]
            simp (maxSteps := 2000000) -implicitDefEqProofs (disch := (refine id_ok ?_; first | assumption | omega | (simp [go_sem] <;> omega) | with_unfolding_all rfl | decide)) only [go_sem, Nat.reduceAdd, Nat.reduceSub, Nat.reduceMul, Nat.reduceLeDiff, Nat.reduceEqDiff, Nat.reduceBEq, reduceIte, reduceCtorEq, HG, hd', hge, e1, e2, g1, g2, e3, e9, e7]
            rfl
        · have e3 : decide ((d : Int) > 0) = false := decide_eq_false (by omega)
          rw [if_neg h0]
          refine key p 0 0 rfl (by omega) (by omega) (by simp) ?_
          rcases hb with rfl | ⟨rfl, rfl⟩ <;> rcases hf with rfl | ⟨rfl, rfl⟩ <;>
          · rw [lp_round]
            simp -implicitDefEqProofs (disch := (refine id_ok ?_; first | assumption | omega | (simp [go_sem] <;> omega) | with_unfolding_all rfl | decide)) only [go_sem, Nat.reduceAdd, Nat.reduceSub, Nat.reduceMul, Nat.reduceLeDiff, Nat.reduceEqDiff, Nat.reduceBEq, reduceIte, reduceCtorEq, HG, hd', hge, e1, e2, g1, g2, e3, e7]
            rfl
      · rw [if_neg h46]
        refine key p n d rfl (by omega) hd hn ?_
        have g1 : ((c.toNat : Int) == 46) = false := by
          rw [beq_eq_false_iff_ne]
          intro h
          exact h46 (.inl (UInt8.toNat_inj.1 (by simpa using (show c.toNat = 46 by omega))))
        have g2 : ((c.toNat : Int) == 47) = false := by
          rw [beq_eq_false_iff_ne]
          intro h
          exact h46 (.inr (UInt8.toNat_inj.1 (by simpa using (show c.toNat = 47 by omega))))
        rcases hb with rfl | ⟨rfl, rfl⟩ <;>
        · rw [lp_round]
          simp -implicitDefEqProofs (disch := (refine id_ok ?_; first | assumption | omega | (simp [go_sem] <;> omega) | with_unfolding_all rfl | decide)) only [go_sem, Nat.reduceAdd, Nat.reduceSub, Nat.reduceMul, Nat.reduceLeDiff, Nat.reduceEqDiff, Nat.reduceBEq, reduceIte, reduceCtorEq, HG, hd', hge, e1, e2, g1, g2, e7]
          rfl
theorem refC_run {s : List UInt8} (hs : s.length ≤ 1000000000) : run T 28 [.str ⟨s.toArray⟩] [] = some (.tup [.agg [.sl .sh ((parC s).1.map encI), .int .i64 (parC s).2.1], .bool (parC s).2.2], []) := by
  have hlp := scan_loop hs s.length 0 [] 0 0 (by omega) (by omega) (by simp) (by simp)
  simp only [List.drop_zero, show ((0 : Nat) : Int) = 0 from rfl] at hlp
  rw [← refC_par]
  unfold refC
  rw [run_code T_28]
  rcases hlp with ⟨p, n, h1, h2⟩ | ⟨h1, σ, p, h2, h3, h4⟩
  · rw [h1]
    simp only [HG, List.map_nil] at h2 ⊢
    have f1 := fit_run (p := p) (n := n)
    cases hf : fitC p n with
    | false =>
      rw [hf] at f1
      simp only [Bool.false_eq_true, false_and, if_false]
      simp -implicitDefEqProofs (disch := (refine id_ok ?_; first | assumption | omega | (simp [go_sem] <;> omega) | with_unfolding_all rfl | decide)) only [go_sem, Nat.reduceAdd, Nat.reduceSub, Nat.reduceMul, Nat.reduceLeDiff, Nat.reduceEqDiff, Nat.reduceBEq, reduceIte, reduceCtorEq, c_regencyref05_Get, h2, f1]
    | true =>
      rw [hf] at f1
      have f2 := txt5_run hf
      by_cases ht : txtC p n = s
      · have e1 : (!(txtC p n == s)) = false := by simp [ht]
        rw [if_pos ⟨rfl, ht⟩]
        simp -implicitDefEqProofs (disch := (refine id_ok ?_; first | assumption | omega | (simp [go_sem] <;> omega) | with_unfolding_all rfl | decide)) only [go_sem, Nat.reduceAdd, Nat.reduceSub, Nat.reduceMul, Nat.reduceLeDiff, Nat.reduceEqDiff, Nat.reduceBEq, reduceIte, reduceCtorEq, c_regencyref05_Get, h2, f1, f2, e1]
      · have e1 : (!(txtC p n == s)) = true := by simp [ht]
        rw [if_neg (fun x => ht x.2)]
        simp -implicitDefEqProofs (disch := (refine id_ok ?_; first | assumption | omega | (simp [go_sem] <;> omega) | with_unfolding_all rfl | decide)) only [go_sem, Nat.reduceAdd, Nat.reduceSub, Nat.reduceMul, Nat.reduceLeDiff, Nat.reduceEqDiff, Nat.reduceBEq, reduceIte, reduceCtorEq, c_regencyref05_Get, h2, f1, f2, e1]
  · rw [h1]
    simp only [HG, List.map_nil] at h2 ⊢
    simp -implicitDefEqProofs (disch := (refine id_ok ?_; first | assumption | omega | (simp [go_sem] <;> omega) | with_unfolding_all rfl | decide)) only [go_sem, Nat.reduceAdd, Nat.reduceSub, Nat.reduceMul, Nat.reduceLeDiff, Nat.reduceEqDiff, Nat.reduceBEq, reduceIte, reduceCtorEq, c_regencyref05_Get, h2, h3, h4]
theorem isCat_run {s : List UInt8} {h : AH} (hs : s.length ≤ 1000000000) : run T 61 [.str ⟨s.toArray⟩] h = some (.bool (rigC s), h) := by
  have h1 := refC_run hs
  rw [run_code T_61]
  unfold rigC
  simp -implicitDefEqProofs (disch := (refine id_ok ?_; first | assumption | omega | (simp [go_sem] <;> omega) | with_unfolding_all rfl | decide)) only [go_sem, Nat.reduceAdd, Nat.reduceSub, Nat.reduceMul, Nat.reduceLeDiff, Nat.reduceEqDiff, Nat.reduceBEq, reduceIte, reduceCtorEq, c_regencyref06_isCat, h1]
end Go.Proofs.YtlcflpanellbfaaGreatDoor.L
/- The document's categories compared; its right labels. -/
set_option linter.all false
set_option maxRecDepth 100000
namespace Go.Proofs.YtlcflpanellbfaaGreatDoor.L
open Go.Proofs.YtlcflpanellbfaaGreatDoor.M Go.Proofs.YtlcflpanellbfaaGreatDoor.F Go.Proofs
def HA (p : List Int) (m : Int) (q : List Int) (n : Int) : AH := [.cells [.sl .sh (p.map encI), .int .i64 m], .cells [.sl .sh (q.map encI), .int .i64 n]]
set_option maxHeartbeats 4000000 in
theorem ahd_loop {p q : List Int} {m n : Int} (hp : p.length ≤ 1000) (hq : q.length ≤ 1000) : ∀ (d i : Nat), d + i = p.length → i ≤ q.length →
    ∃ σ, den T (.loop l_regencyref05_Ahead_0) (s_regencyref05_Ahead_0 (.box 0 0) (.box 1 0) (.int .i64 i)) (HA p m q n) = some (.ret, σ, HA p m q n) ∧ σ.getD 4 undefA = .bool (ahdC (p.drop i) m (q.drop i) n) := by
  intro d
  induction d with
  | zero =>
    intro i hd hi
    have e1 : ((i : Int) == (p.length : Int)) = true := by simp; omega
    rw [List.drop_eq_nil_of_le (show p.length ≤ i by omega)]
    by_cases hl : q.length = i
    · have e2 : ((p.length : Int) != (q.length : Int)) = false := by simp; omega
      rw [List.drop_eq_nil_of_le (show q.length ≤ i by omega)]
      simp only [ahdC]
      rw [lp_round]
      simp (maxSteps := 2000000) -implicitDefEqProofs (disch := (refine id_ok ?_; first | assumption | omega | (simp [go_sem] <;> omega) | with_unfolding_all rfl | decide)) only [go_sem, Nat.reduceAdd, Nat.reduceSub, Nat.reduceMul, Nat.reduceLeDiff, Nat.reduceEqDiff, Nat.reduceBEq, reduceIte, reduceCtorEq, HA, List.length_map, e1, e2]
      exact ⟨_, rfl, rfl⟩
    · have e2 : ((p.length : Int) != (q.length : Int)) = true := by simp; omega
      rw [List.drop_eq_getElem_cons (show i < q.length by omega)]
      simp only [ahdC]
      rw [lp_round]
      simp (maxSteps := 2000000) -implicitDefEqProofs (disch := (refine id_ok ?_; first | assumption | omega | (simp [go_sem] <;> omega) | with_unfolding_all rfl | decide)) only [go_sem, Nat.reduceAdd, Nat.reduceSub, Nat.reduceMul, Nat.reduceLeDiff, Nat.reduceEqDiff, Nat.reduceBEq, reduceIte, reduceCtorEq, HA, List.length_map, e1, e2]
      exact ⟨_, rfl, rfl⟩
  | succ d ih =>
    intro i hd hi
    have hib : i < p.length := by omega
    have e1 : ((i : Int) == (p.length : Int)) = false := by simp; omega
    have hgp : (p.map encI)[(i : Int).toNat]? = some (encI p[i]) := by simp [hib]
    have hdp : p.drop i = p[i] :: p.drop (i + 1) := List.drop_eq_getElem_cons hib
    rw [hdp]
    generalize p[i] = x at *
    by_cases hl : q.length = i
    · have e3 : ((i : Int) == (q.length : Int)) = true := by simp; omega
      have e2 : ((p.length : Int) != (q.length : Int)) = true := by simp; omega
      rw [List.drop_eq_nil_of_le (show q.length ≤ i by omega)]
      simp only [ahdC]
      rw [lp_round]
      simp (maxSteps := 2000000) -implicitDefEqProofs (disch := (refine id_ok ?_; first | assumption | omega | (simp [go_sem] <;> omega) | with_unfolding_all rfl | decide)) only [go_sem, Nat.reduceAdd, Nat.reduceSub, Nat.reduceMul, Nat.reduceLeDiff, Nat.reduceEqDiff, Nat.reduceBEq, reduceIte, reduceCtorEq, HA, List.length_map, e1, e2, e3]
      exact ⟨_, rfl, rfl⟩
    · have hiq : i < q.length := by omega
      have e3 : ((i : Int) == (q.length : Int)) = false := by simp; omega
      have hgq : (q.map encI)[(i : Int).toNat]? = some (encI q[i]) := by simp [hiq]
      have hdq : q.drop i = q[i] :: q.drop (i + 1) := List.drop_eq_getElem_cons hiq
      rw [hdq]
      generalize q[i] = y at *
      have e7 := inc64 (n := i) (by omega)
      simp only [ahdC]
      by_cases hxy : x = y
      · have e4 : (x != y) = false := by simp [hxy]
        rw [if_pos hxy]
        have := ih (i + 1) (by omega) (by omega)
        simp only [HA] at this ⊢
        rw [lp_round]
        simp (maxSteps := 2000000) -implicitDefEqProofs (disch := (refine id_ok ?_; first | assumption | omega | (simp [go_sem] <;> omega) | with_unfolding_all rfl | decide)) only [go_sem, Nat.reduceAdd, Nat.reduceSub, Nat.reduceMul, Nat.reduceLeDiff, Nat.reduceEqDiff, Nat.reduceBEq, reduceIte, reduceCtorEq, List.length_map, e1, e3, hgp, hgq, encI, e4, e7]
        exact this
      · have e4 : (x != y) = true := by simp [hxy]
        rw [if_neg hxy]
        rw [lp_round]
        simp (maxSteps := 2000000) -implicitDefEqProofs (disch := (refine id_ok ?_; first | assumption | omega | (simp [go_sem] <;> omega) | with_unfolding_all rfl | decide)) only [go_sem, Nat.reduceAdd, Nat.reduceSub, Nat.reduceMul, Nat.reduceLeDiff, Nat.reduceEqDiff, Nat.reduceBEq, reduceIte, reduceCtorEq, HA, List.length_map, e1, e3, hgp, hgq, encI, e4]
        exact ⟨_, rfl, rfl⟩
theorem ahd_run {p q : List Int} {m n : Int} (hp : p.length ≤ 1000) (hq : q.length ≤ 1000) : run T 91 [.agg [.sl .sh (p.map encI), .int .i64 m], .agg [.sl .sh (q.map encI), .int .i64 n]] [] = some (.bool (ahdC p m q n), []) := by
  obtain ⟨σ, h1, h2⟩ := ahd_loop (m := m) (n := n) hp hq p.length 0 (by omega) (by omega)
  simp only [List.drop_zero, show ((0 : Nat) : Int) = 0 from rfl, HA] at h1 h2
  rw [run_code T_91]
  simp (maxSteps := 2000000) -implicitDefEqProofs (disch := (refine id_ok ?_; first | assumption | omega | (simp [go_sem] <;> omega) | with_unfolding_all rfl | decide)) only [go_sem, Nat.reduceAdd, Nat.reduceSub, Nat.reduceMul, Nat.reduceLeDiff, Nat.reduceEqDiff, Nat.reduceBEq, reduceIte, reduceCtorEq, c_regencyref05_Ahead, h1, h2]
def cmpR (a b : List UInt8) : Int := if ahdC (parC a).1 (parC a).2.1 (parC b).1 (parC b).2.1 = true then -1 else if a = b then 0 else 1
theorem cmpR_run {a b : List UInt8} {h : AH} (ha : a.length ≤ 1000000000) (hb : b.length ≤ 1000000000) (ra : rigC a = true) (rb : rigC b = true) : run T 62 [.str ⟨a.toArray⟩, .str ⟨b.toArray⟩] h = some (.int .i64 (cmpR a b), h) := by
  have h1 := refC_run ha
  have h2 := refC_run hb
  have l1 := parC_len a
  have l2 := parC_len b
  unfold rigC at ra rb
  rw [ra] at h1
  rw [rb] at h2
  have h3 := ahd_run (p := (parC a).1) (m := (parC a).2.1) (q := (parC b).1) (n := (parC b).2.1) (by omega) (by omega)
  rw [run_code T_62]
  unfold cmpR
  generalize (parC a).1 = p at *
  generalize (parC a).2.1 = m at *
  generalize (parC b).1 = q at *
  generalize (parC b).2.1 = n at *
  cases ho : ahdC p m q n with
  | true =>
    rw [ho] at h3
    simp only [if_true]
    simp (maxSteps := 2000000) -implicitDefEqProofs (disch := (refine id_ok ?_; first | assumption | omega | (simp [go_sem] <;> omega) | with_unfolding_all rfl | decide)) only [go_sem, Nat.reduceAdd, Nat.reduceSub, Nat.reduceMul, Nat.reduceLeDiff, Nat.reduceEqDiff, Nat.reduceBEq, reduceIte, reduceCtorEq, c_regencyref05_Compare, app_get, app_set, app_get0, app_set0, h1, h2, h3]
  | false =>
    rw [ho] at h3
    by_cases hab : a = b
    · have e1 : (a == b) = true := by simp [hab]
      simp only [Bool.false_eq_true, if_false]
      rw [if_pos hab]
      simp (maxSteps := 2000000) -implicitDefEqProofs (disch := (refine id_ok ?_; first | assumption | omega | (simp [go_sem] <;> omega) | with_unfolding_all rfl | decide)) only [go_sem, Nat.reduceAdd, Nat.reduceSub, Nat.reduceMul, Nat.reduceLeDiff, Nat.reduceEqDiff, Nat.reduceBEq, reduceIte, reduceCtorEq, c_regencyref05_Compare, app_get, app_set, app_get0, app_set0, h1, h2, h3, e1]
    · have e1 : (a == b) = false := by simp [hab]
      simp only [Bool.false_eq_true, if_false]
      rw [if_neg hab]
      simp (maxSteps := 2000000) -implicitDefEqProofs (disch := (refine id_ok ?_; first | assumption | omega | (simp [go_sem] <;> omega) | with_unfolding_all rfl | decide)) only [go_sem, Nat.reduceAdd, Nat.reduceSub, Nat.reduceMul, Nat.reduceLeDiff, Nat.reduceEqDiff, Nat.reduceBEq, reduceIte, reduceCtorEq, c_regencyref05_Compare, app_get, app_set, app_get0, app_set0, h1, h2, h3, e1]
theorem cmpR_com {a b : List UInt8} (ra : rigC a = true) (rb : rigC b = true) : (cmpR a b != -1) = !decide (comC a b < 0) := by
  have h := comC_ahd ra rb
  unfold cmpR
  split
  · rename_i hc
    rw [decide_eq_true (h.2 hc)]; rfl
  · rename_i hc
    rw [decide_eq_false (fun x => hc (h.1 x))]
    split <;> rfl
set_option maxHeartbeats 4000000 in
theorem rrig_loop {l : List Ent} {h : AH} (hl : ∀ e ∈ l, e.1.length ≤ 1000000000) (h8 : l.length ≤ 8) : ∀ (d i : Nat), d + i = l.length → (∀ p, prvE l i = some p → rigC p = true) →
    (rigE (prvE l i) (l.drop i) = true ∧ den T (.loop l_regencyref06_Right_0) (s_regencyref06_Right_0 (.sl .sh (l.map encE)) (.int .i64 l.length) (.int .i64 i)) h = some (.exit 0, x_regencyref06_Right_0, h)) ∨
    ∃ σ, den T (.loop l_regencyref06_Right_0) (s_regencyref06_Right_0 (.sl .sh (l.map encE)) (.int .i64 l.length) (.int .i64 i)) h = some (.ret, σ, h) ∧ σ.getD 2 undefA = .bool false ∧ rigE (prvE l i) (l.drop i) = false := by
  intro d
  induction d with
  | zero =>
    intro i hd _
    have hd' : decide ((i : Int) < l.length) = false := decide_eq_false (by omega)
    refine .inl ⟨by rw [List.drop_eq_nil_of_le (by omega)]; rfl, ?_⟩
    rw [lp_round]
    simp -implicitDefEqProofs (disch := (refine id_ok ?_; first | assumption | omega | (simp [go_sem] <;> omega) | with_unfolding_all rfl | decide)) only [go_sem, Nat.reduceAdd, Nat.reduceSub, Nat.reduceMul, Nat.reduceLeDiff, Nat.reduceEqDiff, Nat.reduceBEq, reduceIte, reduceCtorEq, hd']
  | succ d ih =>
    intro i hd hpv
    have hib : i < l.length := by omega
    have hd' : decide ((i : Int) < l.length) = true := decide_eq_true (by omega)
    have hge : (l.map encE)[(i : Int).toNat]? = some (encE l[i]) := by simp [hib]
    have hdr : l.drop i = l[i] :: l.drop (i + 1) := List.drop_eq_getElem_cons hib
    have hpr : prvE l (i + 1) = some l[i].1 := by simp [prvE, hib]
    have hcl := hl l[i] (by simp)
    have ih' := ih (i + 1) (by omega)
    rw [hpr] at ih'
    have hprv : i ≠ 0 → ∃ p : Ent, (l.map encE)[((i : Int) - 1).toNat]? = some (encE p) ∧ prvE l i = some p.1 ∧ p.1.length ≤ 1000000000 := by
      intro h0
      have hj : i - 1 < l.length := by omega
      refine ⟨l[i - 1], ?_, ?_, hl _ (by simp)⟩
      · rw [show ((i : Int) - 1).toNat = i - 1 by omega]; simp [hj]
      · simp [prvE, h0, hj]
    rw [hdr]
    generalize l[i] = e at *
    obtain ⟨c, v⟩ := e
    simp only at hcl ih' hpr
    have h1 := isCat_run (h := []) hcl
    simp only [rigE]
    cases hc : rigC c with
    | false =>
      rw [hc] at h1
      right
      rw [lp_round]
      simp (maxSteps := 2000000) -implicitDefEqProofs (disch := (refine id_ok ?_; first | assumption | omega | (simp [go_sem] <;> omega) | with_unfolding_all rfl | decide)) only [go_sem, Nat.reduceAdd, Nat.reduceSub, Nat.reduceMul, Nat.reduceLeDiff, Nat.reduceEqDiff, Nat.reduceBEq, reduceIte, reduceCtorEq, hd', hge, encE, h1]
      exact ⟨_, rfl, rfl, rfl⟩
    | true =>
      rw [hc] at h1
      have ih'' := ih' (fun p hp => by cases hp; exact hc)
      have hlv : ∃ b0 b2 b3 : Bool, (v != 0) = b0 ∧ (v != 2) = b2 ∧ (v != 3) = b3 ∧ (!(v == 1) && decide (0 ≤ v) && decide (v < 4)) = !(b0 && (b2 && b3)) := by
        refine ⟨_, _, _, rfl, rfl, rfl, ?_⟩
        by_cases q0 : v = 0
        · subst q0; rfl
        · by_cases q2 : v = 2
          · subst q2; rfl
          · by_cases q3 : v = 3
            · subst q3; rfl
            · have : (v != 0 && (v != 2 && v != 3)) = true := by simp [q0, q2, q3]
              rw [this]
              by_cases q1 : v = 1
              · subst q1; rfl
              · by_cases q4 : 0 ≤ v
                · rw [decide_eq_false (show ¬ v < 4 by omega)]; simp
                · rw [decide_eq_false q4]; simp
      obtain ⟨b0, b2, b3, e0, e2, e3, hlv⟩ := hlv
      rw [Bool.true_and, hlv]
      have hbad : (b0 && (b2 && b3)) = true ∨ (b0 && (b2 && b3)) = false := by cases b0 <;> cases b2 <;> cases b3 <;> simp
      rcases hbad with hb | hb
      · obtain ⟨rfl, rfl, rfl⟩ : b0 = true ∧ b2 = true ∧ b3 = true := by simpa using hb
        right
        rw [lp_round]
        simp (maxSteps := 2000000) -implicitDefEqProofs (disch := (refine id_ok ?_; first | assumption | omega | (simp [go_sem] <;> omega) | with_unfolding_all rfl | decide)) only [go_sem, Nat.reduceAdd, Nat.reduceSub, Nat.reduceMul, Nat.reduceLeDiff, Nat.reduceEqDiff, Nat.reduceBEq, reduceIte, reduceCtorEq, hd', hge, encE, h1, e0, e2, e3]
        exact ⟨_, rfl, rfl, rfl⟩
      · have e7 := inc64 (n := i) (by omega)
        rw [hb]
        simp only [Bool.not_false, Bool.true_and]
        by_cases h0 : i = 0
        · have e4 : decide ((i : Int) > 0) = false := decide_eq_false (by omega)
          have hp0 : prvE l i = none := by simp [prvE, h0]
          rw [hp0]
          simp only [Bool.true_and]
          have hstep : den T (.loop l_regencyref06_Right_0) (s_regencyref06_Right_0 (.sl .sh (l.map encE)) (.int .i64 l.length) (.int .i64 i)) h = den T (.loop l_regencyref06_Right_0) (s_regencyref06_Right_0 (.sl .sh (l.map encE)) (.int .i64 l.length) (.int .i64 (i + 1 : Nat))) h := by
            cases b0 <;> cases b2 <;> cases b3 <;> first
              | (simp at hb; done)
              | (rw [lp_round]
                 simp (maxSteps := 2000000) -implicitDefEqProofs (disch := (refine id_ok ?_; first | assumption | omega | (simp [go_sem] <;> omega) | with_unfolding_all rfl | decide)) only [go_sem, Nat.reduceAdd, Nat.reduceSub, Nat.reduceMul, Nat.reduceLeDiff, Nat.reduceEqDiff, Nat.reduceBEq, reduceIte, reduceCtorEq, hd', hge, encE, h1, e0, e2, e3, e4, e7])
          rw [hstep]
          exact ih''
        · have e4 : decide ((i : Int) > 0) = true := decide_eq_true (by omega)
          obtain ⟨q, hq1, hq2, hq3⟩ := hprv h0
          have hrq := hpv _ hq2
          have ha := cmpR_run (h := []) hq3 hcl hrq hc
          have hcc := cmpR_com hrq hc
          have e5 : IntKind.i64.wrap ((i : Int) - 1) = (i : Int) - 1 := w64 (by omega) (by omega)
          rw [hq2]
          simp only
          simp only [encE] at hq1
          cases hco : decide (comC q.1 c < 0) with
          | true =>
            rw [hco, Bool.not_true] at hcc
            simp only [Bool.true_and]
            have hstep : den T (.loop l_regencyref06_Right_0) (s_regencyref06_Right_0 (.sl .sh (l.map encE)) (.int .i64 l.length) (.int .i64 i)) h = den T (.loop l_regencyref06_Right_0) (s_regencyref06_Right_0 (.sl .sh (l.map encE)) (.int .i64 l.length) (.int .i64 (i + 1 : Nat))) h := by
              cases b0 <;> cases b2 <;> cases b3 <;> first
                | (simp at hb; done)
                | (rw [lp_round]
                   simp (maxSteps := 2000000) -implicitDefEqProofs (disch := (refine id_ok ?_; first | assumption | omega | (simp [go_sem] <;> omega) | with_unfolding_all rfl | decide)) only [go_sem, Nat.reduceAdd, Nat.reduceSub, Nat.reduceMul, Nat.reduceLeDiff, Nat.reduceEqDiff, Nat.reduceBEq, reduceIte, reduceCtorEq, hd', hge, encE, h1, e0, e2, e3, e4, e5, hq1, ha, hcc, e7])
            rw [hstep]
            exact ih''
          | false =>
            rw [hco, Bool.not_false] at hcc
            right
            simp only [Bool.false_and]
            cases b0 <;> cases b2 <;> cases b3 <;> first
                | (simp at hb; done)
                | (rw [lp_round]
                   simp (maxSteps := 2000000) -implicitDefEqProofs (disch := (refine id_ok ?_; first | assumption | omega | (simp [go_sem] <;> omega) | with_unfolding_all rfl | decide)) only [go_sem, Nat.reduceAdd, Nat.reduceSub, Nat.reduceMul, Nat.reduceLeDiff, Nat.reduceEqDiff, Nat.reduceBEq, reduceIte, reduceCtorEq, hd', hge, encE, h1, e0, e2, e3, e4, e5, hq1, ha, hcc]
                   exact ⟨_, rfl, rfl⟩)
theorem rrig_run {l : List Ent} {h : AH} (hl : ∀ e ∈ l, e.1.length ≤ 1000000000) : run T 26 [.sl .sh (l.map encE)] h = some (.bool (rigL l), h) := by
  rw [run_code T_26]
  unfold rigL
  by_cases h8 : l.length ≤ 8
  · have e1 : decide ((l.length : Int) > 8) = false := decide_eq_false (by omega)
    have hlp := rrig_loop (h := h) hl h8 l.length 0 (by omega) (fun p hp => by cases hp)
    simp only [List.drop_zero, show ((0 : Nat) : Int) = 0 from rfl, show prvE l 0 = none from rfl] at hlp
    rw [decide_eq_true h8, Bool.true_and]
    rcases hlp with ⟨h1, h2⟩ | ⟨σ, h1, h2, h3⟩
    · rw [h1]
      simp -implicitDefEqProofs (disch := (refine id_ok ?_; first | assumption | omega | (simp [go_sem] <;> omega) | with_unfolding_all rfl | decide)) only [go_sem, Nat.reduceAdd, Nat.reduceSub, Nat.reduceMul, Nat.reduceLeDiff, Nat.reduceEqDiff, Nat.reduceBEq, reduceIte, reduceCtorEq, c_regencyref06_Right, List.length_map, e1, h2]
    · rw [h3]
      simp -implicitDefEqProofs (disch := (refine id_ok ?_; first | assumption | omega | (simp [go_sem] <;> omega) | with_unfolding_all rfl | decide)) only [go_sem, Nat.reduceAdd, Nat.reduceSub, Nat.reduceMul, Nat.reduceLeDiff, Nat.reduceEqDiff, Nat.reduceBEq, reduceIte, reduceCtorEq, c_regencyref06_Right, List.length_map, e1, h1, h2]
  · have e1 : decide ((l.length : Int) > 8) = true := decide_eq_true (by omega)
    rw [decide_eq_false h8, Bool.false_and]
    simp -implicitDefEqProofs (disch := (refine id_ok ?_; first | assumption | omega | (simp [go_sem] <;> omega) | with_unfolding_all rfl | decide)) only [go_sem, Nat.reduceAdd, Nat.reduceSub, Nat.reduceMul, Nat.reduceLeDiff, Nat.reduceEqDiff, Nat.reduceBEq, reduceIte, reduceCtorEq, c_regencyref06_Right, List.length_map, e1]
end Go.Proofs.YtlcflpanellbfaaGreatDoor.L
/- The document's bytes and replies: numbers, texts, labels, replies. -/
set_option linter.all false
set_option maxRecDepth 100000
namespace Go.Proofs.YtlcflpanellbfaaGreatDoor.L
open Go.Proofs.YtlcflpanellbfaaGreatDoor.M Go.Proofs.YtlcflpanellbfaaGreatDoor.F Go.Proofs
theorem byt1 {m : Md} {x : UInt8} : bytesV (.sl m [[.int .u8 (x.toNat : Int)]]) = some (.str ⟨[x].toArray⟩) := bytes_enc (l := [x])
attribute [go_sem] byt1
theorem rn_run : ∀ (n : Nat) {h : AH}, n ≤ 4611686018427387903 → run T 29 [.int .i64 n] h = some (.str ⟨(num n).toArray⟩, h) := by
  intro n
  induction n using Nat.strongRecOn with
  | _ n ih =>
    intro h hn
    rw [run_code T_29]
    rw [num]
    by_cases hc : n < 128
    · have hd : decide ((n : Int) < 128) = true := decide_eq_true (by omega)
      rw [dif_pos hc]
      simp -implicitDefEqProofs (disch := (refine id_ok ?_; first | assumption | omega | (simp [go_sem] <;> omega) | with_unfolding_all rfl | decide)) only [go_sem, Nat.reduceAdd, Nat.reduceSub, Nat.reduceMul, Nat.reduceLeDiff, Nat.reduceEqDiff, Nat.reduceBEq, reduceIte, reduceCtorEq, c_regencyref03_Number, hd, tm8 hc]
    · have hd : decide ((n : Int) < 128) = false := decide_eq_false (by omega)
      have h1 := ih (n / 128) (by omega) (h := []) (by omega)
      have h9 := num_len (n := n / 128) (by omega)
      have e1 : IntKind.u8.wrap (IntKind.i64.wrap (128 + (n : Int).tmod 128)) = ((UInt8.ofNat (n % 128 + 128)).toNat : Int) := by rw [Int.add_comm 128]; exact tm128 hn
      rw [dif_neg hc]
      simp -implicitDefEqProofs (disch := (refine id_ok ?_; first | assumption | omega | (simp [go_sem] <;> omega) | with_unfolding_all rfl | decide)) only [go_sem, Nat.reduceAdd, Nat.reduceSub, Nat.reduceMul, Nat.reduceLeDiff, Nat.reduceEqDiff, Nat.reduceBEq, reduceIte, reduceCtorEq, c_regencyref03_Number, hd, e1, td128 hn, h1, List.cons_append, List.nil_append]
theorem rt_run {s : List UInt8} {h : AH} (hs : s.length ≤ 4611686018427387903) : run T 33 [.str ⟨s.toArray⟩] h = some (.str ⟨(num s.length ++ s).toArray⟩, h) := by
  have h1 := rn_run s.length (h := []) hs
  have h9 := num_len (n := s.length) hs
  rw [run_code T_33]
  simp -implicitDefEqProofs (disch := (refine id_ok ?_; first | assumption | omega | (simp [go_sem] <;> omega) | with_unfolding_all rfl | decide)) only [go_sem, Nat.reduceAdd, Nat.reduceSub, Nat.reduceMul, Nat.reduceLeDiff, Nat.reduceEqDiff, Nat.reduceBEq, reduceIte, reduceCtorEq, c_regencyref03_Text, h1]
theorem rput_loop {l : List Ent} (hl : ∀ e ∈ l, e.1.length ≤ 60 ∧ 0 ≤ e.2 ∧ e.2 < 4 ∧ e.2 ≠ 1) (hll : l.length ≤ 1000) : ∀ (d i : Nat) (js : AH) (b : List UInt8), d + i = l.length → b.length ≤ 80 * i + 9 →
    den T (.loop l_regencyref06_Put_0) (s_regencyref06_Put_0 (.str ⟨b.toArray⟩) (.sl .sh (l.map encE)) (.int .i64 l.length) (.int .i64 i)) js = some (.exit 0, x_regencyref06_Put_0 (.str ⟨(b ++ (l.drop i).flatMap enE1).toArray⟩), js ++ (l.drop i).map bxE) := by
  intro d
  induction d with
  | zero =>
    intro i js b hd hb
    have hd' : decide ((i : Int) < l.length) = false := decide_eq_false (by omega)
    rw [List.drop_eq_nil_of_le (by omega), List.flatMap_nil, List.append_nil, List.map_nil, List.append_nil]
    rw [lp_round]
    simp -implicitDefEqProofs (disch := (refine id_ok ?_; first | assumption | omega | (simp [go_sem] <;> omega) | with_unfolding_all rfl | decide)) only [go_sem, Nat.reduceAdd, Nat.reduceSub, Nat.reduceMul, Nat.reduceLeDiff, Nat.reduceEqDiff, Nat.reduceBEq, reduceIte, reduceCtorEq, hd']
  | succ d ih =>
    intro i js b hd hb
    have hib : i < l.length := by omega
    have hd' : decide ((i : Int) < l.length) = true := decide_eq_true (by omega)
    have hge : (l.map encE)[(i : Int).toNat]? = some (encE l[i]) := by simp [hib]
    have hdr : l.drop i = l[i] :: l.drop (i + 1) := List.drop_eq_getElem_cons hib
    have hcl := hl l[i] (by simp)
    rw [hdr]
    generalize l[i] = e at *
    obtain ⟨c, v⟩ := e
    simp only at hcl
    obtain ⟨hc1, hc2, hc3, _⟩ := hcl
    obtain ⟨v, rfl⟩ : ∃ n : Nat, v = n := ⟨v.toNat, by omega⟩
    have n1 := num_len (n := c.length) (by omega)
    have n2 := num_len (n := v) (by omega)
    have t1 := rt_run (s := c) (h := []) (by omega)
    have t2 := rn_run v (h := []) (by omega)
    have e7 := inc64 (n := i) (by omega)
    have d1 : decide ((v : Int) ≥ 0) = true := decide_eq_true (by omega)
    have d2 : decide ((v : Int) ≤ 4611686018427387903) = true := decide_eq_true (by omega)
    have ih' := ih (i + 1) (js ++ [.cells (encE (c, (v : Int)))]) (b ++ (num c.length ++ c) ++ num v) (by omega) (by simp only [List.length_append]; omega)
    simp only [List.flatMap_cons, List.map_cons, bxE, enE1, Int.toNat_natCast, List.append_assoc, List.singleton_append] at ih' ⊢
    simp only [encE] at ih'
    rw [lp_round]
    simp -implicitDefEqProofs (disch := (refine id_ok ?_; first | assumption | omega | (simp [go_sem] <;> omega) | with_unfolding_all rfl | decide)) only [go_sem, Nat.reduceAdd, Nat.reduceSub, Nat.reduceMul, Nat.reduceLeDiff, Nat.reduceEqDiff, Nat.reduceBEq, reduceIte, reduceCtorEq, hd', hge, encE, app_get0, app_set0, t1, t2, d1, d2, e7]
    exact ih'
theorem rput_run {l : List Ent} {h : AH} (hl : rigL l = true) : run T 31 [.sl .sh (l.map encE)] h = some (.str ⟨(num l.length ++ l.flatMap enE1).toArray⟩, h) := by
  simp only [rigL, Bool.and_eq_true, decide_eq_true_eq] at hl
  have n1 := num_len (n := l.length) (by omega)
  have h1 := rn_run l.length (h := []) (by omega)
  have h2 := rput_loop (rigE_all _ _ hl.2) (by omega) l.length 0 h (num l.length) (by omega) (by omega)
  rw [List.drop_zero] at h2
  simp only [show ((0 : Nat) : Int) = 0 from rfl] at h2
  rw [run_code T_31]
  simp -implicitDefEqProofs (disch := (refine id_ok ?_; first | assumption | omega | (simp [go_sem] <;> omega) | with_unfolding_all rfl | decide)) only [go_sem, Nat.reduceAdd, Nat.reduceSub, Nat.reduceMul, Nat.reduceLeDiff, Nat.reduceEqDiff, Nat.reduceBEq, reduceIte, reduceCtorEq, c_regencyref06_Put, List.length_map, h1, h2]
end Go.Proofs.YtlcflpanellbfaaGreatDoor.L
/- The document's replies: their bytes. -/
set_option linter.all false
set_option maxRecDepth 100000
namespace Go.Proofs.YtlcflpanellbfaaGreatDoor.L
open Go.Proofs.YtlcflpanellbfaaGreatDoor.M Go.Proofs.YtlcflpanellbfaaGreatDoor.F Go.Proofs
end Go.Proofs.YtlcflpanellbfaaGreatDoor.L
/- The document's paths: right, told, put, parsed. -/
set_option linter.all false
set_option maxRecDepth 100000
namespace Go.Proofs.YtlcflpanellbfaaGreatDoor.L
open Go.Proofs.YtlcflpanellbfaaGreatDoor.M Go.Proofs.YtlcflpanellbfaaGreatDoor.F Go.Proofs
theorem rr8_loop {l : List Int} {h : AH} (hl : l.length ≤ 1000000000) : ∀ (d i : Nat), d + i = l.length →
    ((l.drop i).all okN = true ∧ den T (.loop l_regencyref08_Right_0) (s_regencyref08_Right_0 (.sl .sh (l.map encI)) (.sl .sh (l.map encI)) (.int .i64 l.length) (.int .i64 i)) h = some (.exit 0, x_regencyref08_Right_0 (.sl .sh (l.map encI)), h)) ∨
    ((l.drop i).all okN = false ∧ ∃ σ, den T (.loop l_regencyref08_Right_0) (s_regencyref08_Right_0 (.sl .sh (l.map encI)) (.sl .sh (l.map encI)) (.int .i64 l.length) (.int .i64 i)) h = some (.ret, σ, h) ∧ σ.getD 2 undefA = .bool false) := by
  intro d
  induction d with
  | zero =>
    intro i hd
    have hd' : decide ((i : Int) < l.length) = false := decide_eq_false (by omega)
    refine .inl ⟨by rw [List.drop_eq_nil_of_le (by omega)]; rfl, ?_⟩
    rw [lp_round]
    simp -implicitDefEqProofs (disch := (refine id_ok ?_; first | assumption | omega | (simp [go_sem] <;> omega) | with_unfolding_all rfl | decide)) only [go_sem, Nat.reduceAdd, Nat.reduceSub, Nat.reduceMul, Nat.reduceLeDiff, Nat.reduceEqDiff, Nat.reduceBEq, reduceIte, reduceCtorEq, hd']
  | succ d ih =>
    intro i hd
    have hib : i < l.length := by omega
    have hd' : decide ((i : Int) < l.length) = true := decide_eq_true (by omega)
    have hge : (l.map encI)[(i : Int).toNat]? = some (encI l[i]) := by simp [hib]
    have hdr : l.drop i = l[i] :: l.drop (i + 1) := List.drop_eq_getElem_cons hib
    have e7 := incP (n := i) (by omega)
    have ih' := ih (i + 1) (by omega)
    rw [hdr, List.all_cons]
    generalize l[i] = x at *
    simp only [encI] at hge
    by_cases h0 : x < 0
    · have d1 : decide (x < 0) = true := decide_eq_true h0
      have hx : okN x = false := by rw [Bool.eq_false_iff, ne_eq, okN_iff]; omega
      refine .inr ⟨by rw [hx, Bool.false_and], ?_⟩
      rw [lp_round]
      simp (maxSteps := 2000000) -implicitDefEqProofs (disch := (refine id_ok ?_; first | assumption | omega | (simp [go_sem] <;> omega) | with_unfolding_all rfl | decide)) only [go_sem, Nat.reduceAdd, Nat.reduceSub, Nat.reduceMul, Nat.reduceLeDiff, Nat.reduceEqDiff, Nat.reduceBEq, reduceIte, reduceCtorEq, hd', hge, d1]
      exact ⟨_, rfl, rfl⟩
    · have d1 : decide (x < 0) = false := decide_eq_false h0
      by_cases h1 : x > 1048576
      · have d2 : decide (x > 1048576) = true := decide_eq_true h1
        have hx : okN x = false := by rw [Bool.eq_false_iff, ne_eq, okN_iff]; omega
        refine .inr ⟨by rw [hx, Bool.false_and], ?_⟩
        rw [lp_round]
        simp (maxSteps := 2000000) -implicitDefEqProofs (disch := (refine id_ok ?_; first | assumption | omega | (simp [go_sem] <;> omega) | with_unfolding_all rfl | decide)) only [go_sem, Nat.reduceAdd, Nat.reduceSub, Nat.reduceMul, Nat.reduceLeDiff, Nat.reduceEqDiff, Nat.reduceBEq, reduceIte, reduceCtorEq, hd', hge, d1, d2]
        exact ⟨_, rfl, rfl⟩
      · have d2 : decide (x > 1048576) = false := decide_eq_false h1
        have hx : okN x = true := okN_iff.2 (by omega)
        have hstep : den T (.loop l_regencyref08_Right_0) (s_regencyref08_Right_0 (.sl .sh (l.map encI)) (.sl .sh (l.map encI)) (.int .i64 l.length) (.int .i64 i)) h = den T (.loop l_regencyref08_Right_0) (s_regencyref08_Right_0 (.sl .sh (l.map encI)) (.sl .sh (l.map encI)) (.int .i64 l.length) (.int .i64 (i + 1 : Nat))) h := by
          rw [lp_round]
          simp (maxSteps := 2000000) -implicitDefEqProofs (disch := (refine id_ok ?_; first | assumption | omega | (simp [go_sem] <;> omega) | with_unfolding_all rfl | decide)) only [go_sem, Nat.reduceAdd, Nat.reduceSub, Nat.reduceMul, Nat.reduceLeDiff, Nat.reduceEqDiff, Nat.reduceBEq, reduceIte, reduceCtorEq, hd', hge, d1, d2, e7]
          try rfl
        rw [hstep, hx, Bool.true_and]
        exact ih'
theorem rr8_run {l : List Int} {h : AH} (hl : l.length ≤ 1000000000) : run T 25 [.sl .sh (l.map encI)] h = some (.bool (rigP l), h) := by
  have e1 : decide ((l.length : Int) ≤ 6) = decide (l.length ≤ 6) := by congr 1; exact propext (by omega)
  rw [run_code T_25]
  unfold rigP
  rcases rr8_loop (h := h) hl l.length 0 (by omega) with ⟨h1, h2⟩ | ⟨h1, σ, h2, h3⟩
  · simp only [show ((0 : Nat) : Int) = 0 from rfl, List.drop_zero] at h1 h2
    rw [h1, Bool.and_true]
    simp (maxSteps := 2000000) -implicitDefEqProofs (disch := (refine id_ok ?_; first | assumption | omega | (simp [go_sem] <;> omega) | with_unfolding_all rfl | decide)) only [go_sem, Nat.reduceAdd, Nat.reduceSub, Nat.reduceMul, Nat.reduceLeDiff, Nat.reduceEqDiff, Nat.reduceBEq, reduceIte, reduceCtorEq, c_regencyref08_Right, List.length_map, h2, e1]
  · simp only [show ((0 : Nat) : Int) = 0 from rfl, List.drop_zero] at h1 h2
    rw [h1, Bool.and_false]
    simp (maxSteps := 2000000) -implicitDefEqProofs (disch := (refine id_ok ?_; first | assumption | omega | (simp [go_sem] <;> omega) | with_unfolding_all rfl | decide)) only [go_sem, Nat.reduceAdd, Nat.reduceSub, Nat.reduceMul, Nat.reduceLeDiff, Nat.reduceEqDiff, Nat.reduceBEq, reduceIte, reduceCtorEq, c_regencyref08_Right, List.length_map, h2, h3]
theorem rp8_loop {l : List Int} {h : AH} (hl : l.length ≤ 1000) : ∀ (d i : Nat) (a : List UInt8), d + i = l.length → a.length ≤ 9 + 9 * i →
    den T (.loop l_regencyref08_Put_0) (s_regencyref08_Put_0 (.str ⟨a.toArray⟩) (.sl .sh (l.map encI)) (.int .i64 l.length) (.int .i64 i)) h = some (.exit 0, x_regencyref08_Put_0 (.str ⟨(a ++ (l.drop i).flatMap numA).toArray⟩), h) := by
  intro d
  induction d with
  | zero =>
    intro i a hd ha
    have hd' : decide ((i : Int) < l.length) = false := decide_eq_false (by omega)
    rw [List.drop_eq_nil_of_le (by omega), List.flatMap_nil, List.append_nil]
    rw [lp_round]
    simp -implicitDefEqProofs (disch := (refine id_ok ?_; first | assumption | omega | (simp [go_sem] <;> omega) | with_unfolding_all rfl | decide)) only [go_sem, Nat.reduceAdd, Nat.reduceSub, Nat.reduceMul, Nat.reduceLeDiff, Nat.reduceEqDiff, Nat.reduceBEq, reduceIte, reduceCtorEq, hd']
  | succ d ih =>
    intro i a hd ha
    have hib : i < l.length := by omega
    have hd' : decide ((i : Int) < l.length) = true := decide_eq_true (by omega)
    have hge : (l.map encI)[(i : Int).toNat]? = some (encI l[i]) := by simp [hib]
    have hdr : l.drop i = l[i] :: l.drop (i + 1) := List.drop_eq_getElem_cons hib
    have e7 := incP (n := i) (by omega)
    have hn9 := numA_len l[i]
    have ih' := ih (i + 1) (a ++ numA l[i]) (by omega) (by rw [List.length_append]; omega)
    rw [hdr, List.flatMap_cons, ← List.append_assoc]
    generalize l[i] = x at *
    simp only [encI] at hge
    by_cases h0 : 0 ≤ x
    · have d1 : decide (x ≥ 0) = true := decide_eq_true h0
      by_cases h1 : x ≤ 4611686018427387903
      · have d2 : decide (x ≤ 4611686018427387903) = true := decide_eq_true h1
        obtain ⟨u, rfl⟩ : ∃ u : Nat, x = u := ⟨x.toNat, by omega⟩
        have hu : numA (u : Int) = num u := by unfold numA; rw [if_pos ⟨h0, h1⟩, Int.toNat_natCast]
        rw [hu] at ih' hn9 ⊢
        have hn := rn_run u (h := []) (by omega)
        rw [lp_round]
        simp (maxSteps := 2000000) -implicitDefEqProofs (disch := (refine id_ok ?_; first | assumption | omega | (simp [go_sem] <;> omega) | with_unfolding_all rfl | decide)) only [go_sem, Nat.reduceAdd, Nat.reduceSub, Nat.reduceMul, Nat.reduceLeDiff, Nat.reduceEqDiff, Nat.reduceBEq, reduceIte, reduceCtorEq, hd', hge, d1, d2, hn, e7]
        rw [List.append_assoc] at ih'
        exact ih'
      · have d2 : decide (x ≤ 4611686018427387903) = false := decide_eq_false h1
        have hu : numA x = [] := by unfold numA; rw [if_neg (by omega)]
        rw [hu, List.append_nil] at ih' ⊢
        rw [lp_round]
        simp (maxSteps := 2000000) -implicitDefEqProofs (disch := (refine id_ok ?_; first | assumption | omega | (simp [go_sem] <;> omega) | with_unfolding_all rfl | decide)) only [go_sem, Nat.reduceAdd, Nat.reduceSub, Nat.reduceMul, Nat.reduceLeDiff, Nat.reduceEqDiff, Nat.reduceBEq, reduceIte, reduceCtorEq, hd', hge, d1, d2, e7]
        exact ih'
    · have d1 : decide (x ≥ 0) = false := decide_eq_false h0
      have hu : numA x = [] := by unfold numA; rw [if_neg (by omega)]
      rw [hu, List.append_nil] at ih' ⊢
      rw [lp_round]
      simp (maxSteps := 2000000) -implicitDefEqProofs (disch := (refine id_ok ?_; first | assumption | omega | (simp [go_sem] <;> omega) | with_unfolding_all rfl | decide)) only [go_sem, Nat.reduceAdd, Nat.reduceSub, Nat.reduceMul, Nat.reduceLeDiff, Nat.reduceEqDiff, Nat.reduceBEq, reduceIte, reduceCtorEq, hd', hge, d1, e7]
      exact ih'
theorem rp8_run {l : List Int} {h : AH} (hl : l.length ≤ 1000) : run T 30 [.sl .sh (l.map encI)] h = some (.str ⟨(bytA l).toArray⟩, h) := by
  have h9 := num_len (n := l.length) (by omega)
  have h1 := rp8_loop (h := h) hl l.length 0 (num l.length) (by omega) (by omega)
  have h2 := rn_run l.length (h := []) (by omega)
  simp only [show ((0 : Nat) : Int) = 0 from rfl, List.drop_zero] at h1
  rw [run_code T_30]
  unfold bytA
  simp (maxSteps := 2000000) -implicitDefEqProofs (disch := (refine id_ok ?_; first | assumption | omega | (simp [go_sem] <;> omega) | with_unfolding_all rfl | decide)) only [go_sem, Nat.reduceAdd, Nat.reduceSub, Nat.reduceMul, Nat.reduceLeDiff, Nat.reduceEqDiff, Nat.reduceBEq, reduceIte, reduceCtorEq, c_regencyref08_Put, List.length_map, h1, h2]
end Go.Proofs.YtlcflpanellbfaaGreatDoor.L
