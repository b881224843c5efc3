/- The document's categories: the plain law that what they answer is what the program's answer. -/
import Derived.Test.YtibchilpaaiecaaGreatDoorL39
import Derived.Lib.AtoiAllCases
set_option linter.all false
set_option maxRecDepth 100000
namespace Go.Proofs.YtibchilpaaiecaaGreatDoor.L
open Go.Proofs.YtibchilpaaiecaaGreatDoor.M Go.Proofs.YtibchilpaaiecaaGreatDoor.F Go.Proofs
theorem join_nc : ∀ (p : List Int), (∀ k ∈ p, 0 ≤ k) → (47 : UInt8) ∉ joinP (p.map Lib.itoa)
  | [], _ => by simp [joinP]
  | [a], h => itoa_nc (h a (by simp)) (by decide)
  | a :: b :: r, h => by
    have ih := join_nc (b :: r) fun k hk => h k (List.mem_cons_of_mem _ hk)
    have h1 := itoa_nc (h a (by simp)) (c := 47) (by decide)
    simp only [List.map_cons, joinP, List.mem_append, List.mem_cons, not_or] at ih ⊢
    exact ⟨h1, by decide, ih⟩
theorem idx_app {c : UInt8} {s : List UInt8} : ∀ {w : List UInt8}, c ∉ w → Lib.indexByte (w ++ c :: s) c = w.length
  | [], _ => by simp [Lib.indexByte]
  | b :: w, h => by
    have ih := idx_app (c := c) (s := s) (w := w) (fun x => h (List.mem_cons_of_mem _ x))
    have hb : (b == c) = false := by simpa using fun e => h (by rw [e]; simp)
    simp only [List.cons_append, Lib.indexByte, hb, ih]
    have : ((w.length : Int) == -1) = false := by simp
    simp [this]
theorem idx_at {c : UInt8} : ∀ (s : List UInt8), 0 ≤ Lib.indexByte s c → s.take (Lib.indexByte s c).toNat ++ c :: s.drop ((Lib.indexByte s c).toNat + 1) = s
  | [], h => by simp [Lib.indexByte] at h
  | b :: s, h => by
    have ih := idx_at (c := c) s
    have hg := Lib.indexByte_ge s c
    unfold Lib.indexByte at h ⊢
    split
    · rename_i hb; rw [beq_iff_eq] at hb; simp [hb]
    · rename_i hb
      rw [if_neg hb] at h
      split at h
      · omega
      · rename_i h1
        rw [if_neg h1]
        rw [beq_iff_eq] at h1
        have e : (Lib.indexByte s c + 1).toNat = (Lib.indexByte s c).toNat + 1 := by omega
        rw [e, List.take_succ_cons, List.drop_succ_cons, List.cons_append, ih (by omega)]
theorem cut_app {c : UInt8} {s w : List UInt8} (h : c ∉ w) : cutC c (w ++ c :: s) = (w, s, true) := by
  unfold cutC
  rw [idx_app h, if_pos (by omega), Int.toNat_natCast]
  simp
theorem cut_inv {c : UInt8} {s : List UInt8} (h : (cutC c s).2.2 = true) : (cutC c s).1 ++ c :: (cutC c s).2.1 = s := by
  unfold cutC at h ⊢
  split
  · rename_i hi; exact idx_at s hi
  · rename_i hi; rw [if_neg hi] at h; cases h
def fitC (p : List Int) (n : Int) : Bool := decide (0 ≤ n) && decide (n ≤ 65535) && decide (p.length ≤ 6) && p.all fun k => decide (0 ≤ k) && decide (k ≤ 1048576)
def txtC (p : List Int) (n : Int) : List UInt8 := joinP (p.map Lib.itoa) ++ 47 :: Lib.itoa n
theorem fit_iff {p : List Int} {n : Int} : fitC p n = true ↔ (0 ≤ n ∧ n ≤ 65535) ∧ p.length ≤ 6 ∧ ∀ k ∈ p, 0 ≤ k ∧ k ≤ 1048576 := by
  simp [fitC, and_assoc]
theorem pathC_inv : ∀ (l : List (List UInt8)) (a q : List Int), pathC a l = some q → ∃ p, q = a ++ p ∧ l = p.map Lib.itoa ∧ ∀ k ∈ p, 0 ≤ k ∧ k ≤ 1048576
  | [], a, q, h => ⟨[], by simpa [pathC] using h.symm, rfl, by simp⟩
  | w :: l, a, q, h => by
    simp only [pathC] at h
    split at h
    · rename_i hc
      obtain ⟨p, h1, h2, h3⟩ := pathC_inv l _ q h
      obtain ⟨k1, k2⟩ := numC_inv hc.1
      refine ⟨(numC w 1048576).1 :: p, by rw [h1]; simp, by rw [List.map_cons, k1, h2], fun k hk => ?_⟩
      rcases List.mem_cons.1 hk with rfl | hk
      · exact k2
      · exact h3 k hk
    · cases h
theorem pathC_fit : ∀ (p a : List Int), (∀ k ∈ p, 0 ≤ k ∧ k ≤ 1048576) → a.length + p.length ≤ 6 → pathC a (p.map Lib.itoa) = some (a ++ p)
  | [], a, _, _ => by simp [pathC]
  | k :: p, a, h, hl => by
    obtain ⟨h1, h2⟩ := h k (by simp)
    obtain ⟨u, rfl⟩ : ∃ u : Nat, k = u := ⟨k.toNat, by omega⟩
    simp only [List.map_cons, pathC, List.length_cons] at hl ⊢
    rw [numC_dec h2 (by omega), if_pos ⟨rfl, by omega⟩, pathC_fit p _ (fun k hk => h k (List.mem_cons_of_mem _ hk)) (by simp; omega)]
    simp
theorem parC_inv {s : List UInt8} (h : (parC s).2.2 = true) : fitC (parC s).1 (parC s).2.1 = true ∧ txtC (parC s).1 (parC s).2.1 = s := by
  have hl := parC_len s
  unfold parC at h hl ⊢
  split at h
  · rename_i hc
    rw [if_pos hc] at hl
    rw [if_pos hc]
    have hcut := cut_inv hc.1
    obtain ⟨n1, n2⟩ := numC_inv hc.2
    split at h
    · rename_i hw
      rw [if_pos hw]
      rw [hw] at hcut
      exact ⟨fit_iff.2 ⟨n2, by simp, by simp⟩, by simp only [txtC, List.map_nil, joinP, n1]; exact hcut⟩
    · rename_i hw
      rw [if_neg hw] at hl
      rw [if_neg hw]
      split at h
      · rename_i q hq
        rw [hq] at hl
        simp only at hl
        obtain ⟨p, h1, h2, h3⟩ := pathC_inv _ _ _ hq
        rw [List.nil_append] at h1
        subst h1
        refine ⟨fit_iff.2 ⟨n2, hl, h3⟩, ?_⟩
        simp only [txtC, n1]
        rw [← h2, split_join]
        exact hcut
      · cases h
  · cases h
theorem parC_bad {s : List UInt8} (h : (parC s).2.2 = false) : parC s = ([], 0, false) := by
  unfold parC at h ⊢
  split
  · rename_i hc
    rw [if_pos hc] at h
    split
    · rename_i hw; rw [if_pos hw] at h; cases h
    · rename_i hw
      rw [if_neg hw] at h
      split
      · rename_i q hq; rw [hq] at h; cases h
      · rfl
  · rfl
theorem parC_txt {p : List Int} {n : Int} (h : fitC p n = true) : parC (txtC p n) = (p, n, true) := by
  obtain ⟨⟨h1, h2⟩, h3, h4⟩ := fit_iff.1 h
  obtain ⟨u, rfl⟩ : ∃ u : Nat, n = u := ⟨n.toNat, by omega⟩
  unfold parC txtC
  rw [cut_app (join_nc p fun k hk => (h4 k hk).1)]
  simp only
  rw [numC_dec h2 (by omega), if_pos (by simp)]
  simp only
  cases p with
  | nil => rfl
  | cons a p =>
    rw [split_dots (a :: p) (by simp) fun k hk => (h4 k hk).1, pathC_fit (a :: p) [] h4 (by simpa using h3)]
    have hne : joinP ((a :: p).map Lib.itoa) ≠ [] := by
      have := h4 a (by simp)
      obtain ⟨v, rfl⟩ : ∃ v : Nat, a = v := ⟨a.toNat, by omega⟩
      have hd := dec_ne v
      cases p with
      | nil => simp only [List.map_cons, List.map_nil, joinP, itoa_nat]; exact hd
      | cons b r => simp only [List.map_cons, joinP, itoa_nat]; simp
    rw [if_neg hne]
    rfl
def scanC : List UInt8 → List Int → Nat → Nat → Option (List Int × Nat)
  | [], p, n, _ => some (p, n)
  | c :: s, p, n, d =>
    if 48 ≤ c.toNat ∧ c.toNat ≤ 57 then (if 8 ≤ d then none else scanC s p (10 * n + (c.toNat - 48)) (d + 1))
    else if c = 46 ∨ c = 47 then scanC s (if 0 < d then p ++ [(n : Int)] else p) 0 0
    else scanC s p n d
def refC (s : List UInt8) : List Int × Int × Bool :=
  match scanC s [] 0 0 with
  | some (p, n) => if fitC p n = true ∧ txtC p n = s then (p, (n : Int), true) else ([], 0, false)
  | none => ([], 0, false)
theorem scan_dec : ∀ (k u : Nat) (p : List Int) (rest : List UInt8), k ≤ 7 → u < 10 ^ (k + 1) → ∃ d, 0 < d ∧ d ≤ k + 1 ∧ scanC (Lib.decDigits u ++ rest) p 0 0 = scanC rest p u d := by
  intro k
  induction k with
  | zero =>
    intro u p rest hk hu
    have h : u < 10 := by simpa using hu
    refine ⟨1, by omega, by omega, ?_⟩
    rw [Lib.decDigits, dif_pos h]
    simp only [List.cons_append, List.nil_append, scanC, dig_nat h]
    rw [if_pos (by omega), if_neg (by omega)]
    congr 1
    omega
  | succ k ih =>
    intro u p rest hk hu
    by_cases h : u < 10
    · refine ⟨1, by omega, by omega, ?_⟩
      rw [Lib.decDigits, dif_pos h]
      simp only [List.cons_append, List.nil_append, scanC, dig_nat h]
      rw [if_pos (by omega), if_neg (by omega)]
      congr 1
      omega
    · have h2 : u / 10 < 10 ^ (k + 1) := by
        refine Nat.div_lt_of_lt_mul ?_
        rw [Nat.pow_succ] at hu; omega
      obtain ⟨d, d0, d1, hd⟩ := ih (u / 10) p (UInt8.ofNat (48 + u % 10) :: rest) (by omega) h2
      refine ⟨d + 1, by omega, by omega, ?_⟩
      rw [Lib.decDigits, dif_neg h, List.append_assoc, List.singleton_append, hd]
      have hm : u % 10 < 10 := by omega
      simp only [scanC, dig_nat hm]
      rw [if_pos (by omega), if_neg (by omega)]
      congr 1
      omega
theorem scan_sep {c : UInt8} (hc : c = 46 ∨ c = 47) {k : Int} (h0 : 0 ≤ k) (h1 : k ≤ 1048576) (p : List Int) (rest : List UInt8) : scanC (Lib.itoa k ++ c :: rest) p 0 0 = scanC rest (p ++ [k]) 0 0 := by
  obtain ⟨u, rfl⟩ : ∃ u : Nat, k = u := ⟨k.toNat, by omega⟩
  obtain ⟨d, d0, d1, hd⟩ := scan_dec 6 u p (c :: rest) (by omega) (by omega)
  rw [itoa_nat, hd]
  have hn : ¬ (48 ≤ c.toNat ∧ c.toNat ≤ 57) := by rcases hc with rfl | rfl <;> decide
  simp only [scanC]
  rw [if_neg hn, if_pos hc, if_pos d0]
theorem scan_dots : ∀ (p a : List Int) (rest : List UInt8), (∀ k ∈ p, 0 ≤ k ∧ k ≤ 1048576) → scanC (joinP (p.map Lib.itoa) ++ 47 :: rest) a 0 0 = scanC rest (a ++ p) 0 0
  | [], a, rest, _ => by
    simp only [List.map_nil, joinP, List.nil_append, List.append_nil, scanC]
    rw [if_neg (by decide), if_pos (by simp), if_neg (by omega)]
  | [k], a, rest, h => by
    simp only [List.map_cons, List.map_nil, joinP]
    exact scan_sep (.inr rfl) (h k (by simp)).1 (h k (by simp)).2 a rest
  | k :: b :: r, a, rest, h => by
    have ih := scan_dots (b :: r) (a ++ [k]) rest fun k hk => h k (List.mem_cons_of_mem _ hk)
    simp only [List.map_cons, joinP, List.append_assoc, List.cons_append, List.nil_append] at ih ⊢
    rw [scan_sep (.inl rfl) (h k (by simp)).1 (h k (by simp)).2, ih]
theorem scan_txt {p : List Int} {n : Nat} (h : fitC p n = true) : scanC (txtC p n) [] 0 0 = some (p, n) := by
  obtain ⟨⟨h1, h2⟩, h3, h4⟩ := fit_iff.1 h
  obtain ⟨d, d0, d1, hd⟩ := scan_dec 6 n p [] (by omega) (by omega)
  unfold txtC
  rw [scan_dots p [] _ h4, List.nil_append, itoa_nat]
  rw [List.append_nil] at hd
  rw [hd, scanC]
theorem refC_par (s : List UInt8) : refC s = parC s := by
  cases h : (parC s).2.2 with
  | true =>
    obtain ⟨h1, h2⟩ := parC_inv h
    have e : parC s = ((parC s).1, (parC s).2.1, true) := by rw [← h]
    rw [e]
    generalize (parC s).1 = p at *
    generalize (parC s).2.1 = n at *
    have hn := (fit_iff.1 h1).1.1
    obtain ⟨u, rfl⟩ : ∃ u : Nat, n = u := ⟨n.toNat, by omega⟩
    have hs := scan_txt h1
    rw [h2] at hs
    unfold refC
    rw [hs]
    simp only
    rw [if_pos ⟨h1, h2⟩]
  | false =>
    rw [parC_bad h]
    unfold refC
    split
    · rename_i p n hs
      split
      · rename_i hc
        have := parC_txt hc.1
        rw [hc.2] at this
        rw [this] at h
        cases h
      · rfl
    · rfl
def ahdC : List Int → Int → List Int → Int → Bool
  | [], m, [], n => decide (m < n)
  | [], _, _ :: _, _ => true
  | _ :: _, _, [], _ => false
  | a :: p, m, b :: q, n => if a = b then ahdC p m q n else decide (a < b)
theorem cmpL_ahd (m n : Int) : ∀ (p q : List Int), ((cmpL p q < 0 ∨ (cmpL p q = 0 ∧ m < n)) ↔ ahdC p m q n = true)
  | [], [] => by simp [cmpL, ahdC]
  | [], _ :: _ => by simp [cmpL, ahdC]
  | _ :: _, [] => by simp [cmpL, ahdC]
  | a :: p, b :: q => by
    have ih := cmpL_ahd m n p q
    by_cases hab : a = b
    · have e : cmpL (a :: p) (b :: q) = cmpL p q := by rw [cmpL, if_neg (by subst hab; simp [cmpI])]
      have e2 : ahdC (a :: p) m (b :: q) n = ahdC p m q n := by rw [ahdC, if_pos hab]
      rw [e, e2]; exact ih
    · have e : cmpL (a :: p) (b :: q) = cmpI a b := by
        rw [cmpL, if_pos]
        unfold cmpI
        split
        · omega
        · split <;> omega
      have e2 : ahdC (a :: p) m (b :: q) n = decide (a < b) := by rw [ahdC, if_neg hab]
      rw [e, e2, decide_eq_true_eq]
      unfold cmpI
      split
      · omega
      · split <;> omega
theorem comC_ahd {a b : List UInt8} (ha : rigC a = true) (hb : rigC b = true) : comC a b < 0 ↔ ahdC (parC a).1 (parC a).2.1 (parC b).1 (parC b).2.1 = true := by
  unfold comC
  rw [if_neg (by simp [ha]), if_neg (by simp [ha]), if_neg (by simp [hb]), ← cmpL_ahd]
  generalize cmpL (parC a).1 (parC b).1 = x
  by_cases hx : x ≠ 0
  · rw [if_pos hx]; omega
  · rw [if_neg hx]
    unfold cmpI
    split
    · omega
    · split <;> omega
end Go.Proofs.YtibchilpaaiecaaGreatDoor.L
/- The document's categories, walked. -/
set_option linter.all false
set_option maxRecDepth 100000
namespace Go.Proofs.YtibchilpaaiecaaGreatDoor.L
open Go.Proofs.YtibchilpaaiecaaGreatDoor.M Go.Proofs.YtibchilpaaiecaaGreatDoor.F Go.Proofs
theorem str_app {a b : List UInt8} : (⟨a.toArray⟩ : ByteArray) ++ (⟨b.toArray⟩ : ByteArray) = ⟨(a ++ b).toArray⟩ := by
  apply ByteArray.ext
  simp [ByteArray.data_append]
theorem str_get {a : List UInt8} {i : Nat} : (⟨a.toArray⟩ : ByteArray)[i]? = a[i]? := by
  rw [show (⟨a.toArray⟩ : ByteArray)[i]? = a.toArray[i]? from ?_]
  · simp
  · by_cases h : i < a.length
    · rw [getElem?_pos (⟨a.toArray⟩ : ByteArray) i (by simpa [ByteArray.size] using h), getElem?_pos a.toArray i (by simpa using h)]; rfl
    · rw [getElem?_neg (⟨a.toArray⟩ : ByteArray) i (by simpa [ByteArray.size] using h), getElem?_neg a.toArray i (by simpa using h)]
attribute [go_sem] str_app str_get List.size_toArray
def topD (u : Nat) : Nat := if h : u < 10 then u else topD (u / 10)
termination_by u
decreasing_by omega
def tailD (u : Nat) : List UInt8 := if h : u < 10 then [] else tailD (u / 10) ++ [UInt8.ofNat (48 + u % 10)]
termination_by u
decreasing_by omega
theorem topD_lt (u : Nat) : topD u < 10 := by
  induction u using Nat.strongRecOn with
  | _ u ih =>
    rw [topD]; split
    · assumption
    · exact ih _ (by omega)
theorem dec_top (u : Nat) : Lib.decDigits u = UInt8.ofNat (48 + topD u) :: tailD u := by
  induction u using Nat.strongRecOn with
  | _ u ih =>
    rw [Lib.decDigits, topD, tailD]
    split
    · rfl
    · rw [ih (u / 10) (by omega)]; rfl
theorem tail_len (u : Nat) (h : u ≤ 1099511627776) : (tailD u).length ≤ 13 := by
  have h1 := dec_len 12 u (by omega)
  rw [dec_top] at h1
  simp at h1; omega
theorem dslc {d : Nat} (h : d < 10) : sliceV none (.str ⟨#[48, 49, 50, 51, 52, 53, 54, 55, 56, 57]⟩) (some (some (d : Int))) (some (some ((d + 1 : Nat) : Int))) (some none) = some (.str ⟨[UInt8.ofNat (48 + d)].toArray⟩) := by
  match d, h with
  | 0, _ => rfl
  | 1, _ => rfl
  | 2, _ => rfl
  | 3, _ => rfl
  | 4, _ => rfl
  | 5, _ => rfl
  | 6, _ => rfl
  | 7, _ => rfl
  | 8, _ => rfl
  | 9, _ => rfl
  | d + 10, h => omega
theorem tm10 {n : Nat} : (n : Int).tmod 10 = ((n % 10 : Nat) : Int) := by rw [Int.tmod_eq_emod_of_nonneg (by omega)]; rfl
theorem td10 {n : Nat} (h : n ≤ 1099511627776) : IntKind.i64.wrap ((n : Int).tdiv 10) = ((n / 10 : Nat) : Int) := by
  rw [Int.tdiv_eq_ediv_of_nonneg (by omega), w64 (by omega) (by omega)]; omega
theorem inc64 {n : Nat} (h : n ≤ 9223372036854775806) : IntKind.i64.wrap ((n : Int) + 1) = ((n + 1 : Nat) : Int) := by rw [w64 (by omega) (by omega)]; rfl
theorem rnum_loop {h : AH} : ∀ (u : Nat) (r : List UInt8), u ≤ 1099511627776 → (tailD u).length + r.length ≤ 1000 →
    den T (.loop l_regencyref01_num_1) (s_regencyref01_num_1 (.int .i64 u) (.str ⟨r.toArray⟩)) h = some (.exit 2, x_regencyref01_num_2 (.int .i64 (topD u : Nat)) (.str ⟨(tailD u ++ r).toArray⟩), h) := by
  intro u
  induction u using Nat.strongRecOn with
  | _ u ih =>
    intro r hu hr
    rw [lp_round]
    by_cases hc : u < 10
    · have hd : decide ((u : Int) ≥ 10) = false := decide_eq_false (by omega)
      rw [topD, tailD]
      simp -implicitDefEqProofs (disch := (refine id_ok ?_; first | assumption | omega | (simp [go_sem] <;> omega) | with_unfolding_all rfl | decide)) only [go_sem, Nat.reduceAdd, Nat.reduceSub, Nat.reduceMul, Nat.reduceLeDiff, Nat.reduceEqDiff, Nat.reduceBEq, reduceIte, reduceCtorEq, hc, hd, dite_true, List.nil_append]
    · have hd : decide ((u : Int) ≥ 10) = true := decide_eq_true (by omega)
      have hsl := dslc (d := u % 10) (by omega)
      have hi := inc64 (n := u % 10) (by omega)
      have hq := td10 hu
      rw [tailD, dif_neg hc, List.length_append, List.length_cons, List.length_nil] at hr
      have := ih (u / 10) (by omega) (UInt8.ofNat (48 + u % 10) :: r) (by omega) (by rw [List.length_cons]; omega)
      rw [topD, tailD]
      simp only [hc, dite_false, List.append_assoc, List.singleton_append]
      have e1 : (u : Int).tmod 10 = ((u % 10 : Nat) : Int) := tm10
      simp -implicitDefEqProofs (disch := (refine id_ok ?_; first | assumption | omega | (simp [go_sem] <;> omega) | with_unfolding_all rfl | decide)) only [go_sem, Nat.reduceAdd, Nat.reduceSub, Nat.reduceMul, Nat.reduceLeDiff, Nat.reduceEqDiff, Nat.reduceBEq, reduceIte, reduceCtorEq, hd, e1, hi, hsl, hq, List.cons_append, List.nil_append]
      exact this
theorem rnum_run {u : Nat} {h : AH} (hu : u ≤ 1099511627776) : run T 76 [.int .i64 u] h = some (.str ⟨(Lib.decDigits u).toArray⟩, h) := by
  have hlp := rnum_loop (h := h) u [] hu (by have := tail_len u hu; simp; omega)
  have d1 : decide ((u : Int) < 0) = false := decide_eq_false (by omega)
  have ht := topD_lt u
  have hsl := dslc ht
  have hi := inc64 (n := topD u) (by omega)
  have htl := tail_len u hu
  rw [List.append_nil] at hlp
  rw [run_code T_76, dec_top]
  simp -implicitDefEqProofs (disch := (refine id_ok ?_; first | assumption | omega | (simp [go_sem] <;> omega) | with_unfolding_all rfl | decide)) only [go_sem, Nat.reduceAdd, Nat.reduceSub, Nat.reduceMul, Nat.reduceLeDiff, Nat.reduceEqDiff, Nat.reduceBEq, reduceIte, reduceCtorEq, c_regencyref01_num, d1, hlp, hi, hsl, List.cons_append, List.nil_append]
theorem rnumE_run {u : Nat} {h : AH} (hu : u ≤ 1099511627776) : run T 34 [.int .i64 u] h = some (.str ⟨(Lib.decDigits u).toArray⟩, h) := by
  have h1 := rnum_run (h := []) hu
  rw [run_code T_34]
  simp -implicitDefEqProofs (disch := (refine id_ok ?_; first | assumption | omega | (simp [go_sem] <;> omega) | with_unfolding_all rfl | decide)) only [go_sem, Nat.reduceAdd, Nat.reduceSub, Nat.reduceMul, Nat.reduceLeDiff, Nat.reduceEqDiff, Nat.reduceBEq, reduceIte, reduceCtorEq, c_regencyref01_Num, h1]
def dotsF : Bool → List Int → List UInt8
  | _, [] => []
  | b, k :: p => (if b then [46] else []) ++ (Lib.itoa k ++ dotsF true p)
theorem dotsF_join : ∀ (p : List Int), dotsF false p = joinP (p.map Lib.itoa) ∧ (p ≠ [] → dotsF true p = 46 :: joinP (p.map Lib.itoa))
  | [] => ⟨rfl, fun h => absurd rfl h⟩
  | [k] => ⟨by simp [dotsF, joinP], fun _ => by simp [dotsF, joinP]⟩
  | k :: b :: r => by
    obtain ⟨h1, h2⟩ := dotsF_join (b :: r)
    have h3 := h2 (by simp)
    have e : ∀ x, dotsF x (k :: b :: r) = (if x then [46] else []) ++ (Lib.itoa k ++ dotsF true (b :: r)) := fun x => rfl
    refine ⟨?_, fun _ => ?_⟩
    · rw [e, h3]; simp [joinP]
    · rw [e, h3]; simp [joinP]
theorem dec_len7 {u : Nat} (h : u ≤ 1048576) : (Lib.decDigits u).length ≤ 7 := dec_len 6 u (by omega)
theorem txt5_loop {h : AH} {v1 : AV} {p : List Int} (hp : ∀ k ∈ p, 0 ≤ k ∧ k ≤ 1048576) (hl : p.length ≤ 6) : ∀ (d i : Nat) (a : List UInt8), d + i = p.length → a.length ≤ 8 * i →
    den T (.loop l_regencyref05_Text_0) (s_regencyref05_Text_0 v1 (.str ⟨a.toArray⟩) (.sl .sh (p.map encI)) (.int .i64 p.length) (.int .i64 i)) h = some (.exit 0, x_regencyref05_Text_0 v1 (.str ⟨(a ++ dotsF (decide (0 < i)) (p.drop i)).toArray⟩), h) := by
  intro d
  induction d with
  | zero =>
    intro i a hd ha
    have hd' : decide ((i : Int) < p.length) = false := decide_eq_false (by omega)
    rw [List.drop_eq_nil_of_le (by omega), dotsF, List.append_nil]
    rw [lp_round]
    simp -implicitDefEqProofs (disch := (refine id_ok ?_; first | assumption | omega | (simp [go_sem] <;> omega) | with_unfolding_all rfl | decide)) only [go_sem, Nat.reduceAdd, Nat.reduceSub, Nat.reduceMul, Nat.reduceLeDiff, Nat.reduceEqDiff, Nat.reduceBEq, reduceIte, reduceCtorEq, hd']
  | succ d ih =>
    intro i a hd ha
    have hib : i < p.length := by omega
    have hd' : decide ((i : Int) < p.length) = true := decide_eq_true (by omega)
    have hge : (p.map encI)[(i : Int).toNat]? = some (encI p[i]) := by simp [hib]
    have hdr : p.drop i = p[i] :: p.drop (i + 1) := List.drop_eq_getElem_cons hib
    have hcl := hp p[i] (by simp)
    rw [hdr]
    generalize p[i] = k at *
    obtain ⟨u, rfl⟩ : ∃ u : Nat, k = u := ⟨k.toNat, by omega⟩
    have hn := rnumE_run (u := u) (h := []) (by omega)
    have h7 := dec_len7 (u := u) (by omega)
    have e7 := inc64 (n := i) (by omega)
    by_cases h0 : i = 0
    · have e4 : decide ((i : Int) > 0) = false := decide_eq_false (by omega)
      have e5 : decide (0 < i) = false := decide_eq_false (by omega)
      have e6 : decide (0 < i + 1) = true := decide_eq_true (by omega)
      have ih' := ih (i + 1) (a ++ Lib.decDigits u) (by omega) (by simp only [List.length_append]; omega)
      rw [e6] at ih'
      rw [e5]
      simp only [dotsF, Bool.false_eq_true, if_false, List.nil_append, itoa_nat]
      simp only [List.append_assoc] at ih'
      rw [lp_round]
      simp -implicitDefEqProofs (disch := (refine id_ok ?_; first | assumption | omega | (simp [go_sem] <;> omega) | with_unfolding_all rfl | decide)) only [go_sem, Nat.reduceAdd, Nat.reduceSub, Nat.reduceMul, Nat.reduceLeDiff, Nat.reduceEqDiff, Nat.reduceBEq, reduceIte, reduceCtorEq, hd', hge, encI, e4, hn, e7]
      exact ih'
    · have e4 : decide ((i : Int) > 0) = true := decide_eq_true (by omega)
      have e5 : decide (0 < i) = true := decide_eq_true (by omega)
      have e6 : decide (0 < i + 1) = true := decide_eq_true (by omega)
      have ih' := ih (i + 1) (a ++ [46] ++ Lib.decDigits u) (by omega) (by simp only [List.length_append, List.length_cons, List.length_nil]; omega)
      rw [e6] at ih'
      rw [e5]
      simp only [dotsF, if_true, itoa_nat]
      simp only [List.append_assoc] at ih'
      rw [lp_round]
      simp -implicitDefEqProofs (disch := (refine id_ok ?_; first | assumption | omega | (simp [go_sem] <;> omega) | with_unfolding_all rfl | decide)) only [go_sem, Nat.reduceAdd, Nat.reduceSub, Nat.reduceMul, Nat.reduceLeDiff, Nat.reduceEqDiff, Nat.reduceBEq, reduceIte, reduceCtorEq, hd', hge, encI, e4, hn, e7, List.length_append, List.length_cons, List.length_nil]
      exact ih'
theorem txt5_run {p : List Int} {n : Int} (h : fitC p n = true) : run T 92 [.agg [.sl .sh (p.map encI), .int .i64 n]] [] = some (.str ⟨(txtC p n).toArray⟩, []) := by
  obtain ⟨⟨h1, h2⟩, h3, h4⟩ := fit_iff.1 h
  obtain ⟨u, rfl⟩ : ∃ u : Nat, n = u := ⟨n.toNat, by omega⟩
  have hlp := txt5_loop (h := [.cells [.sl .sh (p.map encI), .int .i64 u]]) (v1 := .box 0 0) h4 h3 p.length 0 [] (by omega) (by simp)
  rw [List.drop_zero, List.nil_append, show decide (0 < 0) = false from rfl, (dotsF_join p).1] at hlp
  simp only [show ((0 : Nat) : Int) = 0 from rfl] at hlp
  have hn := rnumE_run (u := u) (h := []) (by omega)
  have h7 := dec_len7 (u := u) (by omega)
  have hj : (joinP (p.map Lib.itoa)).length ≤ 1000 := by
    have : ∀ q : List Int, (∀ k ∈ q, 0 ≤ k ∧ k ≤ 1048576) → (dotsF true q).length ≤ 8 * q.length ∧ (dotsF false q).length ≤ 8 * q.length := by
      intro q
      induction q with
      | nil => intro _; simp [dotsF]
      | cons k q ih =>
        intro hq
        have i1 := ih fun k hk => hq k (List.mem_cons_of_mem _ hk)
        have hk := hq k (by simp)
        obtain ⟨v, rfl⟩ : ∃ v : Nat, k = v := ⟨k.toNat, by omega⟩
        have := dec_len7 (u := v) (by omega)
        simp only [dotsF, itoa_nat, List.length_append, if_true, Bool.false_eq_true, if_false, List.length_cons, List.length_nil]
        omega
    have := (this p h4).2
    rw [(dotsF_join p).1] at this
    omega
  rw [run_code T_92]
  unfold txtC
  rw [itoa_nat]
  simp -implicitDefEqProofs (disch := (refine id_ok ?_; first | assumption | omega | (simp [go_sem] <;> omega) | with_unfolding_all rfl | decide)) only [go_sem, Nat.reduceAdd, Nat.reduceSub, Nat.reduceMul, Nat.reduceLeDiff, Nat.reduceEqDiff, Nat.reduceBEq, reduceIte, reduceCtorEq, c_regencyref05_Text, List.length_map, hlp, hn, List.length_append, List.length_cons, List.length_nil]
theorem fit_loop {h : AH} {p : List Int} (hl : p.length ≤ 6) : ∀ (d i : Nat), d + i = p.length →
    ((p.drop i).all (fun k => decide (0 ≤ k) && decide (k ≤ 1048576)) = true ∧ den T (.loop l_regencyref05_Fits_0) (s_regencyref05_Fits_0 (.sl .sh (p.map encI)) (.int .i64 p.length) (.int .i64 i)) h = some (.exit 0, x_regencyref05_Fits_0, h)) ∨
    ∃ σ, den T (.loop l_regencyref05_Fits_0) (s_regencyref05_Fits_0 (.sl .sh (p.map encI)) (.int .i64 p.length) (.int .i64 i)) h = some (.ret, σ, h) ∧ σ.getD 2 undefA = .bool false ∧ (p.drop i).all (fun k => decide (0 ≤ k) && decide (k ≤ 1048576)) = false := by
  intro d
  induction d with
  | zero =>
    intro i hd
    have hd' : decide ((i : Int) < p.length) = false := decide_eq_false (by omega)
    refine .inl ⟨by rw [List.drop_eq_nil_of_le (by omega)]; rfl, ?_⟩
    rw [lp_round]
    simp -implicitDefEqProofs (disch := (refine id_ok ?_; first | assumption | omega | (simp [go_sem] <;> omega) | with_unfolding_all rfl | decide)) only [go_sem, Nat.reduceAdd, Nat.reduceSub, Nat.reduceMul, Nat.reduceLeDiff, Nat.reduceEqDiff, Nat.reduceBEq, reduceIte, reduceCtorEq, hd']
  | succ d ih =>
    intro i hd
    have hib : i < p.length := by omega
    have hd' : decide ((i : Int) < p.length) = true := decide_eq_true (by omega)
    have hge : (p.map encI)[(i : Int).toNat]? = some (encI p[i]) := by simp [hib]
    have hdr : p.drop i = p[i] :: p.drop (i + 1) := List.drop_eq_getElem_cons hib
    have e7 := inc64 (n := i) (by omega)
    have ih' := ih (i + 1) (by omega)
    rw [hdr, List.all_cons]
    generalize p[i] = k at *
    by_cases h1 : k < 0
    · have e1 : decide (k < 0) = true := decide_eq_true h1
      have e2 : decide (0 ≤ k) = false := decide_eq_false (by omega)
      right
      rw [e2]
      rw [lp_round]
      simp -implicitDefEqProofs (disch := (refine id_ok ?_; first | assumption | omega | (simp [go_sem] <;> omega) | with_unfolding_all rfl | decide)) only [go_sem, Nat.reduceAdd, Nat.reduceSub, Nat.reduceMul, Nat.reduceLeDiff, Nat.reduceEqDiff, Nat.reduceBEq, reduceIte, reduceCtorEq, hd', hge, encI, e1]
      exact ⟨_, rfl, rfl, rfl⟩
    · have e1 : decide (k < 0) = false := decide_eq_false h1
      have e2 : decide (0 ≤ k) = true := decide_eq_true (by omega)
      by_cases h2 : k > 1048576
      · have e3 : decide (k > 1048576) = true := decide_eq_true h2
        have e4 : decide (k ≤ 1048576) = false := decide_eq_false (by omega)
        right
        rw [e2, e4]
        rw [lp_round]
        simp -implicitDefEqProofs (disch := (refine id_ok ?_; first | assumption | omega | (simp [go_sem] <;> omega) | with_unfolding_all rfl | decide)) only [go_sem, Nat.reduceAdd, Nat.reduceSub, Nat.reduceMul, Nat.reduceLeDiff, Nat.reduceEqDiff, Nat.reduceBEq, reduceIte, reduceCtorEq, hd', hge, encI, e1, e3]
        exact ⟨_, rfl, rfl, rfl⟩
      · have e3 : decide (k > 1048576) = false := decide_eq_false h2
        have e4 : decide (k ≤ 1048576) = true := decide_eq_true (by omega)
        rw [e2, e4, Bool.true_and, Bool.true_and]
        rw [lp_round]
        simp -implicitDefEqProofs (disch := (refine id_ok ?_; first | assumption | omega | (simp [go_sem] <;> omega) | with_unfolding_all rfl | decide)) only [go_sem, Nat.reduceAdd, Nat.reduceSub, Nat.reduceMul, Nat.reduceLeDiff, Nat.reduceEqDiff, Nat.reduceBEq, reduceIte, reduceCtorEq, hd', hge, encI, e1, e3, e7]
        exact ih'
theorem fit_run {p : List Int} {n : Int} : run T 91 [.agg [.sl .sh (p.map encI), .int .i64 n]] [] = some (.bool (fitC p n), []) := by
  rw [run_code T_91]
  unfold fitC
  by_cases h1 : n < 0
  · have e1 : decide (n < 0) = true := decide_eq_true h1
    have e2 : decide (0 ≤ n) = false := decide_eq_false (by omega)
    rw [e2]
    simp -implicitDefEqProofs (disch := (refine id_ok ?_; first | assumption | omega | (simp [go_sem] <;> omega) | with_unfolding_all rfl | decide)) only [go_sem, Nat.reduceAdd, Nat.reduceSub, Nat.reduceMul, Nat.reduceLeDiff, Nat.reduceEqDiff, Nat.reduceBEq, reduceIte, reduceCtorEq, c_regencyref05_Fits, e1]
    rfl
  · have e1 : decide (n < 0) = false := decide_eq_false h1
    have e2 : decide (0 ≤ n) = true := decide_eq_true (by omega)
    rw [e2]
    by_cases h2 : n > 65535
    · have e3 : decide (n > 65535) = true := decide_eq_true h2
      have e4 : decide (n ≤ 65535) = false := decide_eq_false (by omega)
      rw [e4]
      simp -implicitDefEqProofs (disch := (refine id_ok ?_; first | assumption | omega | (simp [go_sem] <;> omega) | with_unfolding_all rfl | decide)) only [go_sem, Nat.reduceAdd, Nat.reduceSub, Nat.reduceMul, Nat.reduceLeDiff, Nat.reduceEqDiff, Nat.reduceBEq, reduceIte, reduceCtorEq, c_regencyref05_Fits, e1, e3]
      rfl
    · have e3 : decide (n > 65535) = false := decide_eq_false h2
      have e4 : decide (n ≤ 65535) = true := decide_eq_true (by omega)
      rw [e4]
      by_cases h3 : p.length ≤ 6
      · have e5 : decide ((p.length : Int) > 6) = false := decide_eq_false (by omega)
        rw [decide_eq_true h3]
        have hlp := fit_loop (h := [.cells [.sl .sh (p.map encI), .int .i64 n]]) h3 p.length 0 (by omega)
        simp only [List.drop_zero, show ((0 : Nat) : Int) = 0 from rfl] at hlp
        rcases hlp with ⟨k1, k2⟩ | ⟨σ, k1, k2, k3⟩
        · rw [k1]
          simp -implicitDefEqProofs (disch := (refine id_ok ?_; first | assumption | omega | (simp [go_sem] <;> omega) | with_unfolding_all rfl | decide)) only [go_sem, Nat.reduceAdd, Nat.reduceSub, Nat.reduceMul, Nat.reduceLeDiff, Nat.reduceEqDiff, Nat.reduceBEq, reduceIte, reduceCtorEq, c_regencyref05_Fits, e1, e3, List.length_map, e5, k2]
        · rw [k3]
          simp -implicitDefEqProofs (disch := (refine id_ok ?_; first | assumption | omega | (simp [go_sem] <;> omega) | with_unfolding_all rfl | decide)) only [go_sem, Nat.reduceAdd, Nat.reduceSub, Nat.reduceMul, Nat.reduceLeDiff, Nat.reduceEqDiff, Nat.reduceBEq, reduceIte, reduceCtorEq, c_regencyref05_Fits, e1, e3, List.length_map, e5, k1, k2]
      · have e5 : decide ((p.length : Int) > 6) = true := decide_eq_true (by omega)
        rw [decide_eq_false h3]
        simp -implicitDefEqProofs (disch := (refine id_ok ?_; first | assumption | omega | (simp [go_sem] <;> omega) | with_unfolding_all rfl | decide)) only [go_sem, Nat.reduceAdd, Nat.reduceSub, Nat.reduceMul, Nat.reduceLeDiff, Nat.reduceEqDiff, Nat.reduceBEq, reduceIte, reduceCtorEq, c_regencyref05_Fits, e1, e3, List.length_map, e5]
        rfl
end Go.Proofs.YtibchilpaaiecaaGreatDoor.L
/- The document's categories: how a name is read; which is ahead. -/
set_option linter.all false
set_option maxRecDepth 100000
namespace Go.Proofs.YtibchilpaaiecaaGreatDoor.L
open Go.Proofs.YtibchilpaaiecaaGreatDoor.M Go.Proofs.YtibchilpaaiecaaGreatDoor.F Go.Proofs
def HG (p : List Int) : AH := [.cells [ow [], .int .i64 0], .cells [ow (p.map encI), .int .i64 0]]
theorem u8sub {c : Nat} (h0 : 48 ≤ c) (h1 : c ≤ 57) : IntKind.u8.wrap ((c : Int) - 48) = ((c - 48 : Nat) : Int) := by rw [w8]; omega
set_option maxHeartbeats 4000000 in
theorem scan_loop {s : List UInt8} (hs : s.length ≤ 1000000000) : ∀ (k i : Nat) (p : List Int) (n d : Nat), k + i = s.length → d ≤ 8 → n < 10 ^ d → p.length ≤ i →
    (∃ p' n', scanC (s.drop i) p n d = some (p', n') ∧ den T (.loop l_regencyref05_Get_0) (s_regencyref05_Get_0 (.str ⟨s.toArray⟩) (.box 0 0) (.box 1 0) (.int .i64 n) (.int .i64 d) (.int .i64 i)) (HG p) = some (.exit 0, x_regencyref05_Get_0 (.str ⟨s.toArray⟩) (.box 0 0) (.box 1 0) (.int .i64 n'), HG p')) ∨
    (scanC (s.drop i) p n d = none ∧ ∃ σ p', den T (.loop l_regencyref05_Get_0) (s_regencyref05_Get_0 (.str ⟨s.toArray⟩) (.box 0 0) (.box 1 0) (.int .i64 n) (.int .i64 d) (.int .i64 i)) (HG p) = some (.ret, σ, HG p') ∧ σ.getD 2 undefA = .box 0 0 ∧ σ.getD 3 undefA = .bool false) := by
  intro k
  induction k with
  | zero =>
    intro i p n d hk hd hn hp
    have hd' : decide ((i : Int) < s.length) = false := decide_eq_false (by omega)
    refine .inl ⟨p, n, by rw [List.drop_eq_nil_of_le (by omega)]; rfl, ?_⟩
    rw [lp_round]
    simp -implicitDefEqProofs (disch := (refine id_ok ?_; first | assumption | omega | (simp [go_sem] <;> omega) | with_unfolding_all rfl | decide)) only [go_sem, Nat.reduceAdd, Nat.reduceSub, Nat.reduceMul, Nat.reduceLeDiff, Nat.reduceEqDiff, Nat.reduceBEq, reduceIte, reduceCtorEq, hd']
  | succ k ih =>
    intro i p n d hk hd hn hp
    have hib : i < s.length := by omega
    have hd' : decide ((i : Int) < s.length) = true := decide_eq_true (by omega)
    have hge : s[(i : Int).toNat]? = some s[i] := by simp [hib]
    have hdr : s.drop i = s[i] :: s.drop (i + 1) := List.drop_eq_getElem_cons hib
    have e7 := inc64 (n := i) (by omega)
    rw [hdr]
    generalize s[i] = c at *
    have hcl := c.toNat_lt
    have h8 : n < 100000000 := Nat.lt_of_lt_of_le hn (Nat.pow_le_pow_right (n := 10) (by omega) hd)
    have e8 := inc64 (n := d) (by omega)
    by_cases hdig : 48 ≤ c.toNat ∧ c.toNat ≤ 57
    · have e1 : decide ((c.toNat : Int) ≥ 48) = true := decide_eq_true (by omega)
      have e2 : decide ((c.toNat : Int) ≤ 57) = true := decide_eq_true (by omega)
      simp only [scanC]
      rw [if_pos hdig]
      by_cases h9 : 8 ≤ d
      · have e3 : decide (((d + 1 : Nat) : Int) > 8) = true := decide_eq_true (by omega)
        rw [if_pos h9]
        right
        refine ⟨rfl, ?_⟩
        rw [lp_round]
        simp -implicitDefEqProofs (disch := (refine id_ok ?_; first | assumption | omega | (simp [go_sem] <;> omega) | with_unfolding_all rfl | decide)) only [go_sem, Nat.reduceAdd, Nat.reduceSub, Nat.reduceMul, Nat.reduceLeDiff, Nat.reduceEqDiff, Nat.reduceBEq, reduceIte, reduceCtorEq, HG, hd', hge, e1, e2, e8, e3]
        exact ⟨_, p, ⟨rfl, rfl⟩, rfl, rfl⟩
      · have e3 : decide (((d + 1 : Nat) : Int) > 8) = false := decide_eq_false (by omega)
        have e4 := u8sub hdig.1 hdig.2
        have e5 : IntKind.i64.wrap ((c.toNat - 48 : Nat) : Int) = ((c.toNat - 48 : Nat) : Int) := w64 (by omega) (by omega)
        have e6 : IntKind.i64.wrap (10 * (n : Int)) = ((10 * n : Nat) : Int) := by rw [w64 (by omega) (by omega)]; omega
        have e9 : IntKind.i64.wrap (((10 * n : Nat) : Int) + ((c.toNat - 48 : Nat) : Int)) = ((10 * n + (c.toNat - 48) : Nat) : Int) := by rw [← Int.natCast_add, w64 (by omega) (by omega)]
        rw [if_neg h9]
        have hp10 : 10 ^ (d + 1) = 10 ^ d * 10 := Nat.pow_succ ..
        have := ih (i + 1) p (10 * n + (c.toNat - 48)) (d + 1) (by omega) (by omega) (by omega) (by omega)
        have hstep : den T (.loop l_regencyref05_Get_0) (s_regencyref05_Get_0 (.str ⟨s.toArray⟩) (.box 0 0) (.box 1 0) (.int .i64 n) (.int .i64 d) (.int .i64 i)) (HG p) = den T (.loop l_regencyref05_Get_0) (s_regencyref05_Get_0 (.str ⟨s.toArray⟩) (.box 0 0) (.box 1 0) (.int .i64 (10 * n + (c.toNat - 48) : Nat)) (.int .i64 (d + 1 : Nat)) (.int .i64 (i + 1 : Nat))) (HG p) := by
          rw [lp_round]
          simp -implicitDefEqProofs (disch := (refine id_ok ?_; first | assumption | omega | (simp [go_sem] <;> omega) | with_unfolding_all rfl | decide)) only [go_sem, Nat.reduceAdd, Nat.reduceSub, Nat.reduceMul, Nat.reduceLeDiff, Nat.reduceEqDiff, Nat.reduceBEq, reduceIte, reduceCtorEq, HG, hd', hge, e1, e2, e8, e3, e4, e5, e6, e9, e7]
          rfl
        rw [hstep]
        exact this
    · simp only [scanC]
      rw [if_neg hdig]
      have hno : ∃ b1 b2 : Bool, decide ((c.toNat : Int) ≥ 48) = b1 ∧ decide ((c.toNat : Int) ≤ 57) = b2 ∧ (b1 = false ∨ (b1 = true ∧ b2 = false)) := by
        refine ⟨_, _, rfl, rfl, ?_⟩
        by_cases h1 : 48 ≤ c.toNat
        · right; exact ⟨decide_eq_true (by omega), decide_eq_false (by omega)⟩
        · left; exact decide_eq_false (by omega)
      obtain ⟨b1, b2, e1, e2, hb⟩ := hno
      have key : ∀ (q : List Int) (m d' : Nat), scanC (s.drop (i + 1)) q m d' = scanC (s.drop (i + 1)) q m d' → q.length ≤ i + 1 → d' ≤ 8 → m < 10 ^ d' →
          den T (.loop l_regencyref05_Get_0) (s_regencyref05_Get_0 (.str ⟨s.toArray⟩) (.box 0 0) (.box 1 0) (.int .i64 n) (.int .i64 d) (.int .i64 i)) (HG p) = den T (.loop l_regencyref05_Get_0) (s_regencyref05_Get_0 (.str ⟨s.toArray⟩) (.box 0 0) (.box 1 0) (.int .i64 m) (.int .i64 d') (.int .i64 (i + 1 : Nat))) (HG q) →
          (∃ p' n', scanC (s.drop (i + 1)) q m d' = some (p', n') ∧ den T (.loop l_regencyref05_Get_0) (s_regencyref05_Get_0 (.str ⟨s.toArray⟩) (.box 0 0) (.box 1 0) (.int .i64 n) (.int .i64 d) (.int .i64 i)) (HG p) = some (.exit 0, x_regencyref05_Get_0 (.str ⟨s.toArray⟩) (.box 0 0) (.box 1 0) (.int .i64 n'), HG p')) ∨
          (scanC (s.drop (i + 1)) q m d' = none ∧ ∃ σ p', den T (.loop l_regencyref05_Get_0) (s_regencyref05_Get_0 (.str ⟨s.toArray⟩) (.box 0 0) (.box 1 0) (.int .i64 n) (.int .i64 d) (.int .i64 i)) (HG p) = some (.ret, σ, HG p') ∧ σ.getD 2 undefA = .box 0 0 ∧ σ.getD 3 undefA = .bool false) := by
        intro q m d' _ hq hd2 hm hstep
        rw [hstep]
        exact ih (i + 1) q m d' (by omega) hd2 hm hq
      by_cases h46 : c = 46 ∨ c = 47
      · rw [if_pos h46]
        have hf : ∃ f1 f2 : Bool, ((c.toNat : Int) == 46) = f1 ∧ ((c.toNat : Int) == 47) = f2 ∧ (f1 = true ∨ (f1 = false ∧ f2 = true)) := by
          refine ⟨_, _, rfl, rfl, ?_⟩
          rcases h46 with rfl | rfl
          · left; rfl
          · right; exact ⟨rfl, rfl⟩
        obtain ⟨f1, f2, g1, g2, hf⟩ := hf
        by_cases h0 : 0 < d
        · have e3 : decide ((d : Int) > 0) = true := decide_eq_true (by omega)
          rw [if_pos h0]
          refine key (p ++ [(n : Int)]) 0 0 rfl (by simp; omega) (by omega) (by simp) ?_
          have e9 : (p ++ [(n : Int)]).map encI = p.map encI ++ [[.int .i64 (n : Int)]] := by simp [encI]
          rcases hb with rfl | ⟨rfl, rfl⟩ <;> rcases hf with rfl | ⟨rfl, rfl⟩ <;>
          · rw [lp_round]
            simp (maxSteps := 2000000) -implicitDefEqProofs (disch := (refine id_ok ?_; first | assumption | omega | (simp [go_sem] <;> omega) | with_unfolding_all rfl | decide)) only [go_sem, Nat.reduceAdd, Nat.reduceSub, Nat.reduceMul, Nat.reduceLeDiff, Nat.reduceEqDiff, Nat.reduceBEq, reduceIte, reduceCtorEq, HG, hd', hge, e1, e2, g1, g2, e3, e9, e7]
            rfl
        · have e3 : decide ((d : Int) > 0) = false := decide_eq_false (by omega)
          rw [if_neg h0]
          refine key p 0 0 rfl (by omega) (by omega) (by simp) ?_
          rcases hb with rfl | ⟨rfl, rfl⟩ <;> rcases hf with rfl | ⟨rfl, rfl⟩ <;>
          · rw [lp_round]
            simp -implicitDefEqProofs (disch := (refine id_ok ?_; first | assumption | omega | (simp [go_sem] <;> omega) | with_unfolding_all rfl | decide)) only [go_sem, Nat.reduceAdd, Nat.reduceSub, Nat.reduceMul, Nat.reduceLeDiff, Nat.reduceEqDiff, Nat.reduceBEq, reduceIte, reduceCtorEq, HG, hd', hge, e1, e2, g1, g2, e3, e7]
            rfl
      · rw [if_neg h46]
        refine key p n d rfl (by omega) hd hn ?_
        have g1 : ((c.toNat : Int) == 46) = false := by
          rw [beq_eq_false_iff_ne]
          intro h
          exact h46 (.inl (UInt8.toNat_inj.1 (by simpa using (show c.toNat = 46 by omega))))
        have g2 : ((c.toNat : Int) == 47) = false := by
          rw [beq_eq_false_iff_ne]
          intro h
          exact h46 (.inr (UInt8.toNat_inj.1 (by simpa using (show c.toNat = 47 by omega))))
        rcases hb with rfl | ⟨rfl, rfl⟩ <;>
        · rw [lp_round]
          simp -implicitDefEqProofs (disch := (refine id_ok ?_; first | assumption | omega | (simp [go_sem] <;> omega) | with_unfolding_all rfl | decide)) only [go_sem, Nat.reduceAdd, Nat.reduceSub, Nat.reduceMul, Nat.reduceLeDiff, Nat.reduceEqDiff, Nat.reduceBEq, reduceIte, reduceCtorEq, HG, hd', hge, e1, e2, g1, g2, e7]
          rfl
theorem refC_run {s : List UInt8} (hs : s.length ≤ 1000000000) : run T 54 [.str ⟨s.toArray⟩] [] = some (.tup [.agg [.sl .sh ((parC s).1.map encI), .int .i64 (parC s).2.1], .bool (parC s).2.2], []) := by
  have hlp := scan_loop hs s.length 0 [] 0 0 (by omega) (by omega) (by simp) (by simp)
  simp only [List.drop_zero, show ((0 : Nat) : Int) = 0 from rfl] at hlp
  rw [← refC_par]
  unfold refC
  rw [run_code T_54]
  rcases hlp with ⟨p, n, h1, h2⟩ | ⟨h1, σ, p, h2, h3, h4⟩
  · rw [h1]
    simp only [HG, List.map_nil] at h2 ⊢
    have f1 := fit_run (p := p) (n := n)
    cases hf : fitC p n with
    | false =>
      rw [hf] at f1
      simp only [Bool.false_eq_true, false_and, if_false]
      simp -implicitDefEqProofs (disch := (refine id_ok ?_; first | assumption | omega | (simp [go_sem] <;> omega) | with_unfolding_all rfl | decide)) only [go_sem, Nat.reduceAdd, Nat.reduceSub, Nat.reduceMul, Nat.reduceLeDiff, Nat.reduceEqDiff, Nat.reduceBEq, reduceIte, reduceCtorEq, c_regencyref05_Get, h2, f1]
    | true =>
      rw [hf] at f1
      have f2 := txt5_run hf
      by_cases ht : txtC p n = s
      · have e1 : (!(txtC p n == s)) = false := by simp [ht]
        rw [if_pos ⟨rfl, ht⟩]
        simp -implicitDefEqProofs (disch := (refine id_ok ?_; first | assumption | omega | (simp [go_sem] <;> omega) | with_unfolding_all rfl | decide)) only [go_sem, Nat.reduceAdd, Nat.reduceSub, Nat.reduceMul, Nat.reduceLeDiff, Nat.reduceEqDiff, Nat.reduceBEq, reduceIte, reduceCtorEq, c_regencyref05_Get, h2, f1, f2, e1]
      · have e1 : (!(txtC p n == s)) = true := by simp [ht]
        rw [if_neg (fun x => ht x.2)]
        simp -implicitDefEqProofs (disch := (refine id_ok ?_; first | assumption | omega | (simp [go_sem] <;> omega) | with_unfolding_all rfl | decide)) only [go_sem, Nat.reduceAdd, Nat.reduceSub, Nat.reduceMul, Nat.reduceLeDiff, Nat.reduceEqDiff, Nat.reduceBEq, reduceIte, reduceCtorEq, c_regencyref05_Get, h2, f1, f2, e1]
  · rw [h1]
    simp only [HG, List.map_nil] at h2 ⊢
    simp -implicitDefEqProofs (disch := (refine id_ok ?_; first | assumption | omega | (simp [go_sem] <;> omega) | with_unfolding_all rfl | decide)) only [go_sem, Nat.reduceAdd, Nat.reduceSub, Nat.reduceMul, Nat.reduceLeDiff, Nat.reduceEqDiff, Nat.reduceBEq, reduceIte, reduceCtorEq, c_regencyref05_Get, h2, h3, h4]
theorem isCat_run {s : List UInt8} {h : AH} (hs : s.length ≤ 1000000000) : run T 98 [.str ⟨s.toArray⟩] h = some (.bool (rigC s), h) := by
  have h1 := refC_run hs
  rw [run_code T_98]
  unfold rigC
  simp -implicitDefEqProofs (disch := (refine id_ok ?_; first | assumption | omega | (simp [go_sem] <;> omega) | with_unfolding_all rfl | decide)) only [go_sem, Nat.reduceAdd, Nat.reduceSub, Nat.reduceMul, Nat.reduceLeDiff, Nat.reduceEqDiff, Nat.reduceBEq, reduceIte, reduceCtorEq, c_regencyref06_isCat, h1]
end Go.Proofs.YtibchilpaaiecaaGreatDoor.L
