/- The document's categories: the plain law that what they answer is what the program's answer. -/
import Derived.Test.YtibchilpaaiecaaGreatDoorL39
import Derived.Lib.AtoiAllCases
import Derived.Test.YtibchilpaaiecaaGreatDoorL57
set_option linter.all false
set_option maxRecDepth 100000
namespace Go.Proofs.YtibchilpaaiecaaGreatDoor.L
open Go.Proofs.YtibchilpaaiecaaGreatDoor.M Go.Proofs.YtibchilpaaiecaaGreatDoor.F Go.Proofs
theorem BQ : ∀ (p : List Int), (∀ k ∈ p, 0 ≤ k) → (47 : UInt8) ∉ cU (p.map Lib.itoa)
 | [], _ => by simp [cU]
 | [a], h => sO (h a (by simp)) (by decide)
 | a :: b :: r, h => by
  have ih := BQ (b :: r) fun k hk => h k (List.mem_cons_of_mem _ hk)
  have h1 := sO (h a (by simp)) (c := 47) (by decide)
  simp only [List.map_cons, cU, List.mem_append, List.mem_cons, not_or] at ih ⊢
  exact ⟨h1, by decide, ih⟩
theorem BR {c : UInt8} {s : List UInt8} : ∀ {w : List UInt8}, c ∉ w → Lib.indexByte (w ++ c :: s) c = w.length
 | [], _ => by simp [Lib.indexByte]
 | b :: w, h => by
  have ih := BR (c := c) (s := s) (w := w) (fun x => h (List.mem_cons_of_mem _ x))
  have hb : (b == c) = false := by simpa using fun e => h (by rw [e]; simp)
  simp only [List.cons_append, Lib.indexByte, hb, ih]
  have : ((w.length : Int) == -1) = false := by simp
  simp [this]
theorem Fq {c : UInt8} : ∀ (s : List UInt8), 0 ≤ Lib.indexByte s c → s.take (Lib.indexByte s c).toNat ++ c :: s.drop ((Lib.indexByte s c).toNat + 1) = s
 | [], h => by simp [Lib.indexByte] at h
 | b :: s, h => by
  have ih := Fq (c := c) s
  have hg := Lib.indexByte_ge s c
  unfold Lib.indexByte at h ⊢
  split
  ·rename_i hb; rw [beq_iff_eq] at hb; simp [hb]
  ·rename_i hb
   rw [if_neg hb] at h
   split at h
   ·omega
   ·rename_i h1
    rw [if_neg h1]
    rw [beq_iff_eq] at h1
    have e : (Lib.indexByte s c + 1).toNat = (Lib.indexByte s c).toNat + 1 := by omega
    rw [e, List.take_succ_cons, List.drop_succ_cons, List.cons_append, ih (by omega)]
theorem vV {c : UInt8} {s w : List UInt8} (h : c ∉ w) : cutC c (w ++ c :: s) = (w, s, true) := by
 unfold cutC
 rw [BR h, if_pos (by omega), Int.toNat_natCast]
 simp
theorem HN {c : UInt8} {s : List UInt8} (h : (cutC c s).2.2 = true) : (cutC c s).1 ++ c :: (cutC c s).2.1 = s := by
 unfold cutC at h ⊢
 split
 ·rename_i hi; exact Fq s hi
 ·rename_i hi; rw [if_neg hi] at h; cases h
def fitC (p : List Int) (n : Int) : Bool := decide (0 ≤ n) && decide (n ≤ 65535) && decide (p.length ≤ 6) && p.all fun k => decide (0 ≤ k) && decide (k ≤ 1048576)
def txtC (p : List Int) (n : Int) : List UInt8 := cU (p.map Lib.itoa) ++ 47 :: Lib.itoa n
theorem mg {p : List Int} {n : Int} : fitC p n = true ↔ (0 ≤ n ∧ n ≤ 65535) ∧ p.length ≤ 6 ∧ ∀ k ∈ p, 0 ≤ k ∧ k ≤ 1048576 := by
 simp [fitC, and_assoc]
theorem uC : ∀ (l : List (List UInt8)) (a q : List Int), iv a l = some q → ∃ p, q = a ++ p ∧ l = p.map Lib.itoa ∧ ∀ k ∈ p, 0 ≤ k ∧ k ≤ 1048576
 | [], a, q, h => ⟨[], by simpa [iv] using h.symm, rfl, by simp⟩
 | w :: l, a, q, h => by
  simp only [iv] at h
  split at h
  ·rename_i hc
   obtain ⟨p, h1, h2, h3⟩ := uC l _ q h
   obtain ⟨k1, k2⟩ := xr hc.1
   refine ⟨(numC w 1048576).1 :: p, by rw [h1]; simp, by rw [List.map_cons, k1, h2], fun k hk => ?_⟩
   rcases List.mem_cons.1 hk with rfl | hk
   ·exact k2
   ·exact h3 k hk
  ·cases h
theorem uD : ∀ (p a : List Int), (∀ k ∈ p, 0 ≤ k ∧ k ≤ 1048576) → a.length + p.length ≤ 6 → iv a (p.map Lib.itoa) = some (a ++ p)
 | [], a, _, _ => by simp [iv]
 | k :: p, a, h, hl => by
  obtain ⟨h1, h2⟩ := h k (by simp)
  obtain ⟨u, rfl⟩ : ∃ u : Nat, k = u := ⟨k.toNat, by omega⟩
  simp only [List.map_cons, iv, List.length_cons] at hl ⊢
  rw [xq h2 (by omega), if_pos ⟨rfl, by omega⟩, uD p _ (fun k hk => h k (List.mem_cons_of_mem _ hk)) (by simp; omega)]
  simp
theorem oF {s : List UInt8} (h : (parC s).2.2 = true) : fitC (parC s).1 (parC s).2.1 = true ∧ txtC (parC s).1 (parC s).2.1 = s := by
 have hl := mT s
 unfold parC at h hl ⊢
 split at h
 ·rename_i hc
  rw [if_pos hc] at hl
  rw [if_pos hc]
  have hcut := HN hc.1
  obtain ⟨n1, n2⟩ := xr hc.2
  split at h
  ·rename_i hw
   rw [if_pos hw]
   rw [hw] at hcut
   exact ⟨mg.2 ⟨n2, by simp, by simp⟩, by simp only [txtC, List.map_nil, cU, n1]; exact hcut⟩
  ·rename_i hw
   rw [if_neg hw] at hl
   rw [if_neg hw]
   split at h
   ·rename_i q hq
    rw [hq] at hl
    simp only at hl
    obtain ⟨p, h1, h2, h3⟩ := uC _ _ _ hq
    rw [List.nil_append] at h1
    subst h1
    refine ⟨mg.2 ⟨n2, hl, h3⟩, ?_⟩
    simp only [txtC, n1]
    rw [← h2, qZ]
    exact hcut
   ·cases h
 ·cases h
theorem DT {s : List UInt8} (h : (parC s).2.2 = false) : parC s = ([], 0, false) := by
 unfold parC at h ⊢
 split
 ·rename_i hc
  rw [if_pos hc] at h
  split
  ·rename_i hw; rw [if_pos hw] at h; cases h
  ·rename_i hw
   rw [if_neg hw] at h
   split
   ·rename_i q hq; rw [hq] at h; cases h
   ·rfl
 ·rfl
theorem DU {p : List Int} {n : Int} (h : fitC p n = true) : parC (txtC p n) = (p, n, true) := by
 obtain ⟨⟨h1, h2⟩, h3, h4⟩ := mg.1 h
 obtain ⟨u, rfl⟩ : ∃ u : Nat, n = u := ⟨n.toNat, by omega⟩
 unfold parC txtC
 rw [vV (BQ p fun k hk => (h4 k hk).1)]
 simp only
 rw [xq h2 (by omega), if_pos (by simp)]
 simp only
 cases p with
 | nil => rfl
 | cons a p =>
  rw [nJ (a :: p) (by simp) fun k hk => (h4 k hk).1, uD (a :: p) [] h4 (by simpa using h3)]
  have hne : cU ((a :: p).map Lib.itoa) ≠ [] := by
   have := h4 a (by simp)
   obtain ⟨v, rfl⟩ : ∃ v : Nat, a = v := ⟨a.toNat, by omega⟩
   have hd := nS v
   cases p with
   | nil => simp only [List.map_cons, List.map_nil, cU, dp]; exact hd
   | cons b r => simp only [List.map_cons, cU, dp]; simp
  rw [if_neg hne]
  rfl
def gK : List UInt8 → List Int → Nat → Nat → Option (List Int × Nat)
 | [], p, n, _ => some (p, n)
 | c :: s, p, n, d =>
  if 48 ≤ c.toNat ∧ c.toNat ≤ 57 then (if 8 ≤ d then none else gK s p (10 * n + (c.toNat - 48)) (d + 1))
  else if c = 46 ∨ c = 47 then gK s (if 0 < d then p ++ [(n : Int)] else p) 0 0
  else gK s p n d
def refC (s : List UInt8) : List Int × Int × Bool :=
 match gK s [] 0 0 with
 | some (p, n) => if fitC p n = true ∧ txtC p n = s then (p, (n : Int), true) else ([], 0, false)
 | none => ([], 0, false)
theorem xB : ∀ (k u : Nat) (p : List Int) (rest : List UInt8), k ≤ 7 → u < 10 ^ (k + 1) → ∃ d, 0 < d ∧ d ≤ k + 1 ∧ gK (Lib.decDigits u ++ rest) p 0 0 = gK rest p u d := by
 intro k
 induction k with
 | zero =>
  intro u p rest hk hu
  have h : u < 10 := by simpa using hu
  refine ⟨1, by omega, by omega, ?_⟩
  rw [Lib.decDigits, dif_pos h]
  simp only [List.cons_append, List.nil_append, gK, me h]
  rw [if_pos (by omega), if_neg (by omega)]
  congr 1
  omega
 | succ k ih =>
  intro u p rest hk hu
  by_cases h : u < 10
  ·refine ⟨1, by omega, by omega, ?_⟩
   rw [Lib.decDigits, dif_pos h]
   simp only [List.cons_append, List.nil_append, gK, me h]
   rw [if_pos (by omega), if_neg (by omega)]
   congr 1
   omega
  ·have h2 : u / 10 < 10 ^ (k + 1) := by
    refine Nat.div_lt_of_lt_mul ?_
    rw [Nat.pow_succ] at hu; omega
   obtain ⟨d, d0, d1, hd⟩ := ih (u / 10) p (UInt8.ofNat (48 + u % 10) :: rest) (by omega) h2
   refine ⟨d + 1, by omega, by omega, ?_⟩
   rw [Lib.decDigits, dif_neg h, List.append_assoc, List.singleton_append, hd]
   have hm : u % 10 < 10 := by omega
   simp only [gK, me hm]
   rw [if_pos (by omega), if_neg (by omega)]
   congr 1
   omega
theorem xC {c : UInt8} (hc : c = 46 ∨ c = 47) {k : Int} (h0 : 0 ≤ k) (h1 : k ≤ 1048576) (p : List Int) (rest : List UInt8) : gK (Lib.itoa k ++ c :: rest) p 0 0 = gK rest (p ++ [k]) 0 0 := by
 obtain ⟨u, rfl⟩ : ∃ u : Nat, k = u := ⟨k.toNat, by omega⟩
 obtain ⟨d, d0, d1, hd⟩ := xB 6 u p (c :: rest) (by omega) (by omega)
 rw [dp, hd]
 have hn : ¬ (48 ≤ c.toNat ∧ c.toNat ≤ 57) := by rcases hc with rfl | rfl <;> decide
 simp only [gK]
 rw [if_neg hn, if_pos hc, if_pos d0]
theorem uE : ∀ (p a : List Int) (rest : List UInt8), (∀ k ∈ p, 0 ≤ k ∧ k ≤ 1048576) → gK (cU (p.map Lib.itoa) ++ 47 :: rest) a 0 0 = gK rest (a ++ p) 0 0
 | [], a, rest, _ => by
  simp only [List.map_nil, cU, List.nil_append, List.append_nil, gK]
  rw [if_neg (by decide), if_pos (by simp), if_neg (by omega)]
 | [k], a, rest, h => by
  simp only [List.map_cons, List.map_nil, cU]
  exact xC (.inr rfl) (h k (by simp)).1 (h k (by simp)).2 a rest
 | k :: b :: r, a, rest, h => by
  have ih := uE (b :: r) (a ++ [k]) rest fun k hk => h k (List.mem_cons_of_mem _ hk)
  simp only [List.map_cons, cU, List.append_assoc, List.cons_append, List.nil_append] at ih ⊢
  rw [xC (.inl rfl) (h k (by simp)).1 (h k (by simp)).2, ih]
theorem DV {p : List Int} {n : Nat} (h : fitC p n = true) : gK (txtC p n) [] 0 0 = some (p, n) := by
 obtain ⟨⟨h1, h2⟩, h3, h4⟩ := mg.1 h
 obtain ⟨d, d0, d1, hd⟩ := xB 6 n p [] (by omega) (by omega)
 unfold txtC
 rw [uE p [] _ h4, List.nil_append, dp]
 rw [List.append_nil] at hd
 rw [hd, gK]
theorem DW (s : List UInt8) : refC s = parC s := by
 cases h : (parC s).2.2 with
 | true =>
  obtain ⟨h1, h2⟩ := oF h
  have e : parC s = ((parC s).1, (parC s).2.1, true) := by rw [← h]
  rw [e]
  generalize (parC s).1 = p at *
  generalize (parC s).2.1 = n at *
  have hn := (mg.1 h1).1.1
  obtain ⟨u, rfl⟩ : ∃ u : Nat, n = u := ⟨n.toNat, by omega⟩
  have hs := DV h1
  rw [h2] at hs
  unfold refC
  rw [hs]
  simp only
  rw [if_pos ⟨h1, h2⟩]
 | false =>
  rw [DT h]
  unfold refC
  split
  ·rename_i p n hs
   split
   ·rename_i hc
    have := DU hc.1
    rw [hc.2] at this
    rw [this] at h
    cases h
   ·rfl
  ·rfl
def ahdC : List Int → Int → List Int → Int → Bool
 | [], m, [], n => decide (m < n)
 | [], _, _ :: _, _ => true
 | _ :: _, _, [], _ => false
 | a :: p, m, b :: q, n => if a = b then ahdC p m q n else decide (a < b)
theorem xD (m n : Int) : ∀ (p q : List Int), ((cmpL p q < 0 ∨ (cmpL p q = 0 ∧ m < n)) ↔ ahdC p m q n = true)
 | [], [] => by simp [cmpL, ahdC]
 | [], _ :: _ => by simp [cmpL, ahdC]
 | _ :: _, [] => by simp [cmpL, ahdC]
 | a :: p, b :: q => by
  have ih := xD m n p q
  by_cases hab : a = b
  ·have e : cmpL (a :: p) (b :: q) = cmpL p q := by rw [cmpL, if_neg (by subst hab; simp [cmpI])]
   have e2 : ahdC (a :: p) m (b :: q) n = ahdC p m q n := by rw [ahdC, if_pos hab]
   rw [e, e2]; exact ih
  ·have e : cmpL (a :: p) (b :: q) = cmpI a b := by
    rw [cmpL, if_pos]
    unfold cmpI
    split
    ·omega
    ·split <;> omega
   have e2 : ahdC (a :: p) m (b :: q) n = decide (a < b) := by rw [ahdC, if_neg hab]
   rw [e, e2, decide_eq_true_eq]
   unfold cmpI
   split
   ·omega
   ·split <;> omega
theorem DX {a b : List UInt8} (ha : rigC a = true) (hb : rigC b = true) : comC a b < 0 ↔ ahdC (parC a).1 (parC a).2.1 (parC b).1 (parC b).2.1 = true := by
 unfold comC
 rw [if_neg (by simp [ha]), if_neg (by simp [ha]), if_neg (by simp [hb]), ← xD]
 generalize cmpL (parC a).1 (parC b).1 = x
 by_cases hx : x ≠ 0
 ·rw [if_pos hx]; omega
 ·rw [if_neg hx]
  unfold cmpI
  split
  ·omega
  ·split <;> omega
end Go.Proofs.YtibchilpaaiecaaGreatDoor.L
/- The document's categories, walked. -/
set_option linter.all false
set_option maxRecDepth 100000
namespace Go.Proofs.YtibchilpaaiecaaGreatDoor.L
open Go.Proofs.YtibchilpaaiecaaGreatDoor.M Go.Proofs.YtibchilpaaiecaaGreatDoor.F Go.Proofs
theorem HO {a b : List UInt8} : (⟨a.toArray⟩ : ByteArray) ++ (⟨b.toArray⟩ : ByteArray) = ⟨(a ++ b).toArray⟩ := by
 apply ByteArray.ext
 simp [ByteArray.data_append]
theorem gL {a : List UInt8} {i : Nat} : (⟨a.toArray⟩ : ByteArray)[i]? = a[i]? := by
 rw [show (⟨a.toArray⟩ : ByteArray)[i]? = a.toArray[i]? from ?_]
 ·simp
 ·by_cases h : i < a.length
  ·rw [getElem?_pos (⟨a.toArray⟩ : ByteArray) i (by simpa [ByteArray.size] using h), getElem?_pos a.toArray i (by simpa using h)]; rfl
  ·rw [getElem?_neg (⟨a.toArray⟩ : ByteArray) i (by simpa [ByteArray.size] using h), getElem?_neg a.toArray i (by simpa using h)]
attribute [go_sem] HO gL List.size_toArray
def topD (u : Nat) : Nat := if h : u < 10 then u else topD (u / 10)
termination_by u
decreasing_by omega
def tailD (u : Nat) : List UInt8 := if h : u < 10 then [] else tailD (u / 10) ++ [UInt8.ofNat (48 + u % 10)]
termination_by u
decreasing_by omega
theorem vW (u : Nat) : topD u < 10 := by
 induction u using Nat.strongRecOn with
 | _ u ih =>
  rw [topD]; split
  ·assumption
  ·exact ih _ (by omega)
theorem pV (u : Nat) : Lib.decDigits u = UInt8.ofNat (48 + topD u) :: tailD u := by
 induction u using Nat.strongRecOn with
 | _ u ih =>
  rw [Lib.decDigits, topD, tailD]
  split
  ·rfl
  ·rw [ih (u / 10) (by omega)]; rfl
theorem xE (u : Nat) (h : u ≤ 1099511627776) : (tailD u).length ≤ 13 := by
 have h1 := kM 12 u (by omega)
 rw [pV] at h1
 simp at h1; omega
theorem dslc {d : Nat} (h : d < 10) : cV none (.str ⟨#[48, 49, 50, 51, 52, 53, 54, 55, 56, 57]⟩) (some (some (d : Int))) (some (some ((d + 1 : Nat) : Int))) (some none) = some (.str ⟨[UInt8.ofNat (48 + d)].toArray⟩) := by
 match d, h with
 | 0, _ => rfl
 | 1, _ => rfl
 | 2, _ => rfl
 | 3, _ => rfl
 | 4, _ => rfl
 | 5, _ => rfl
 | 6, _ => rfl
 | 7, _ => rfl
 | 8, _ => rfl
 | 9, _ => rfl
 | d + 10, h => omega
theorem tm10 {n : Nat} : (n : Int).tmod 10 = ((n % 10 : Nat) : Int) := by rw [Int.tmod_eq_emod_of_nonneg (by omega)]; rfl
theorem td10 {n : Nat} (h : n ≤ 1099511627776) : IntKind.i64.wrap ((n : Int).tdiv 10) = ((n / 10 : Nat) : Int) := by
 rw [Int.tdiv_eq_ediv_of_nonneg (by omega), w64 (by omega) (by omega)]; omega
theorem uF {n : Nat} (h : n ≤ 9223372036854775806) : IntKind.i64.wrap ((n : Int) + 1) = ((n + 1 : Nat) : Int) := by rw [w64 (by omega) (by omega)]; rfl
theorem BS {h : AH} : ∀ (u : Nat) (r : List UInt8), u ≤ 1099511627776 → (tailD u).length + r.length ≤ 1000 →
  den T (.loop eS) (gP (.int .i64 u) (.str ⟨r.toArray⟩)) h = some (.exit 2, gQ (.int .i64 (topD u : Nat)) (.str ⟨(tailD u ++ r).toArray⟩), h) := by
 intro u
 induction u using Nat.strongRecOn with
 | _ u ih =>
  intro r hu hr
  rw [ae]
  by_cases hc : u < 10
  ·have hd : decide ((u : Int) ≥ 10) = false := decide_eq_false (by omega)
   rw [topD, tailD]
   simp -implicitDefEqProofs (disch := (refine ab ?_; first | assumption | omega | (simp [go_sem] <;> omega) | with_unfolding_all rfl | decide)) only [go_sem, Nat.reduceAdd, Nat.reduceSub, reduceIte, reduceCtorEq, hc, hd, dite_true, List.nil_append]
  ·have hd : decide ((u : Int) ≥ 10) = true := decide_eq_true (by omega)
   have hsl := dslc (d := u % 10) (by omega)
   have hi := uF (n := u % 10) (by omega)
   have hq := td10 hu
   rw [tailD, dif_neg hc, List.length_append, List.length_cons, List.length_nil] at hr
   have := ih (u / 10) (by omega) (UInt8.ofNat (48 + u % 10) :: r) (by omega) (by rw [List.length_cons]; omega)
   rw [topD, tailD]
   simp only [hc, dite_false, List.append_assoc, List.singleton_append]
   have e1 : (u : Int).tmod 10 = ((u % 10 : Nat) : Int) := tm10
   simp -implicitDefEqProofs (disch := (refine ab ?_; first | assumption | omega | (simp [go_sem] <;> omega) | with_unfolding_all rfl | decide)) only [go_sem, Nat.reduceAdd, Nat.reduceSub, reduceIte, reduceCtorEq, hd, e1, hi, hsl, hq, List.cons_append, List.nil_append]
   exact this
theorem DY {u : Nat} {h : AH} (hu : u ≤ 1099511627776) : run T 76 [.int .i64 u] h = some (.str ⟨(Lib.decDigits u).toArray⟩, h) := by
 have hlp := BS (h := h) u [] hu (by have := xE u hu; simp; omega)
 have d1 : decide ((u : Int) < 0) = false := decide_eq_false (by omega)
 have ht := vW u
 have hsl := dslc ht
 have hi := uF (n := topD u) (by omega)
 have htl := xE u hu
 rw [List.append_nil] at hlp
 rw [af T_76, pV]
 simp -implicitDefEqProofs (disch := (refine ab ?_; first | assumption | omega | (simp [go_sem] <;> omega) | with_unfolding_all rfl | decide)) only [go_sem, Nat.reduceAdd, Nat.reduceSub, reduceIte, reduceCtorEq, cu, d1, hlp, hi, hsl, List.cons_append, List.nil_append]
theorem uG {u : Nat} {h : AH} (hu : u ≤ 1099511627776) : run T 34 [.int .i64 u] h = some (.str ⟨(Lib.decDigits u).toArray⟩, h) := by
 have h1 := DY (h := []) hu
 rw [af T_34]
 simp -implicitDefEqProofs (disch := (refine ab ?_; first | assumption | omega | (simp [go_sem] <;> omega) | with_unfolding_all rfl | decide)) only [go_sem, Nat.reduceAdd, Nat.reduceSub, reduceIte, reduceCtorEq, de, h1]
def mh : Bool → List Int → List UInt8
 | _, [] => []
 | b, k :: p => (if b then [46] else []) ++ (Lib.itoa k ++ mh true p)
theorem nL : ∀ (p : List Int), mh false p = cU (p.map Lib.itoa) ∧ (p ≠ [] → mh true p = 46 :: cU (p.map Lib.itoa))
 | [] => ⟨rfl, fun h => absurd rfl h⟩
 | [k] => ⟨by simp [mh, cU], fun _ => by simp [mh, cU]⟩
 | k :: b :: r => by
  obtain ⟨h1, h2⟩ := nL (b :: r)
  have h3 := h2 (by simp)
  have e : ∀ x, mh x (k :: b :: r) = (if x then [46] else []) ++ (Lib.itoa k ++ mh true (b :: r)) := fun x => rfl
  refine ⟨?_, fun _ => ?_⟩
  ·rw [e, h3]; simp [cU]
  ·rw [e, h3]; simp [cU]
theorem sS {u : Nat} (h : u ≤ 1048576) : (Lib.decDigits u).length ≤ 7 := kM 6 u (by omega)
theorem BT {h : AH} {v1 : AV} {p : List Int} (hp : ∀ k ∈ p, 0 ≤ k ∧ k ≤ 1048576) (hl : p.length ≤ 6) : ∀ (d i : Nat) (a : List UInt8), d + i = p.length → a.length ≤ 8 * i →
  den T (.loop gD) (kG v1 (.str ⟨a.toArray⟩) (.sl .sh (p.map encI)) (.int .i64 p.length) (.int .i64 i)) h = some (.exit 0, kH v1 (.str ⟨(a ++ mh (decide (0 < i)) (p.drop i)).toArray⟩), h) := by
 intro d
 induction d with
 | zero =>
  intro i a hd ha
  have hd' : decide ((i : Int) < p.length) = false := decide_eq_false (by omega)
  rw [List.drop_eq_nil_of_le (by omega), mh, List.append_nil]
  rw [ae]
  simp -implicitDefEqProofs (disch := (refine ab ?_; first | assumption | omega | (simp [go_sem] <;> omega) | with_unfolding_all rfl | decide)) only [go_sem, Nat.reduceAdd, Nat.reduceSub, reduceIte, reduceCtorEq, hd']
 | succ d ih =>
  intro i a hd ha
  have hib : i < p.length := by omega
  have hd' : decide ((i : Int) < p.length) = true := decide_eq_true (by omega)
  have hge : (p.map encI)[(i : Int).toNat]? = some (encI p[i]) := by simp [hib]
  have hdr : p.drop i = p[i] :: p.drop (i + 1) := List.drop_eq_getElem_cons hib
  have hcl := hp p[i] (by simp)
  rw [hdr]
  generalize p[i] = k at *
  obtain ⟨u, rfl⟩ : ∃ u : Nat, k = u := ⟨k.toNat, by omega⟩
  have hn := uG (u := u) (h := []) (by omega)
  have h7 := sS (u := u) (by omega)
  have e7 := uF (n := i) (by omega)
  by_cases h0 : i = 0
  ·have e4 : decide ((i : Int) > 0) = false := decide_eq_false (by omega)
   have e5 : decide (0 < i) = false := decide_eq_false (by omega)
   have e6 : decide (0 < i + 1) = true := decide_eq_true (by omega)
   have ih' := ih (i + 1) (a ++ Lib.decDigits u) (by omega) (by simp only [List.length_append]; omega)
   rw [e6] at ih'
   rw [e5]
   simp only [mh, Bool.false_eq_true, if_false, List.nil_append, dp]
   simp only [List.append_assoc] at ih'
   rw [ae]
   simp -implicitDefEqProofs (disch := (refine ab ?_; first | assumption | omega | (simp [go_sem] <;> omega) | with_unfolding_all rfl | decide)) only [go_sem, Nat.reduceAdd, Nat.reduceSub, reduceIte, reduceCtorEq, hd', hge, encI, e4, hn, e7]
   exact ih'
  ·have e4 : decide ((i : Int) > 0) = true := decide_eq_true (by omega)
   have e5 : decide (0 < i) = true := decide_eq_true (by omega)
   have e6 : decide (0 < i + 1) = true := decide_eq_true (by omega)
   have ih' := ih (i + 1) (a ++ [46] ++ Lib.decDigits u) (by omega) (by simp only [List.length_append, List.length_cons, List.length_nil]; omega)
   rw [e6] at ih'
   rw [e5]
   simp only [mh, if_true, dp]
   simp only [List.append_assoc] at ih'
   rw [ae]
   simp -implicitDefEqProofs (disch := (refine ab ?_; first | assumption | omega | (simp [go_sem] <;> omega) | with_unfolding_all rfl | decide)) only [go_sem, Nat.reduceAdd, Nat.reduceSub, reduceIte, reduceCtorEq, hd', hge, encI, e4, hn, e7, List.length_append, List.length_cons, List.length_nil]
   exact ih'
theorem DZ {p : List Int} {n : Int} (h : fitC p n = true) : run T 92 [.agg [.sl .sh (p.map encI), .int .i64 n]] [] = some (.str ⟨(txtC p n).toArray⟩, []) := by
 obtain ⟨⟨h1, h2⟩, h3, h4⟩ := mg.1 h
 obtain ⟨u, rfl⟩ : ∃ u : Nat, n = u := ⟨n.toNat, by omega⟩
 have hlp := BT (h := [.cells [.sl .sh (p.map encI), .int .i64 u]]) (v1 := .box 0 0) h4 h3 p.length 0 [] (by omega) (by simp)
 rw [List.drop_zero, List.nil_append, show decide (0 < 0) = false from rfl, (nL p).1] at hlp
 simp only [show ((0 : Nat) : Int) = 0 from rfl] at hlp
 have hn := uG (u := u) (h := []) (by omega)
 have h7 := sS (u := u) (by omega)
 have hj : (cU (p.map Lib.itoa)).length ≤ 1000 := by
  have : ∀ q : List Int, (∀ k ∈ q, 0 ≤ k ∧ k ≤ 1048576) → (mh true q).length ≤ 8 * q.length ∧ (mh false q).length ≤ 8 * q.length := by
   intro q
   induction q with
   | nil => intro _; simp [mh]
   | cons k q ih =>
    intro hq
    have i1 := ih fun k hk => hq k (List.mem_cons_of_mem _ hk)
    have hk := hq k (by simp)
    obtain ⟨v, rfl⟩ : ∃ v : Nat, k = v := ⟨k.toNat, by omega⟩
    have := sS (u := v) (by omega)
    simp only [mh, dp, List.length_append, if_true, Bool.false_eq_true, if_false, List.length_cons, List.length_nil]
    omega
  have := (this p h4).2
  rw [(nL p).1] at this
  omega
 rw [af T_92]
 unfold txtC
 rw [dp]
 simp -implicitDefEqProofs (disch := (refine ab ?_; first | assumption | omega | (simp [go_sem] <;> omega) | with_unfolding_all rfl | decide)) only [go_sem, Nat.reduceAdd, Nat.reduceSub, reduceIte, reduceCtorEq, dR, List.length_map, hlp, hn, List.length_append, List.length_cons, List.length_nil]
theorem D0 {h : AH} {p : List Int} (hl : p.length ≤ 6) : ∀ (d i : Nat), d + i = p.length →
  ((p.drop i).all (fun k => decide (0 ≤ k) && decide (k ≤ 1048576)) = true ∧ den T (.loop eE) (gC (.sl .sh (p.map encI)) (.int .i64 p.length) (.int .i64 i)) h = some (.exit 0, kF, h)) ∨
  ∃ σ, den T (.loop eE) (gC (.sl .sh (p.map encI)) (.int .i64 p.length) (.int .i64 i)) h = some (.ret, σ, h) ∧ σ.getD 2 aa = .bool false ∧ (p.drop i).all (fun k => decide (0 ≤ k) && decide (k ≤ 1048576)) = false := by
 intro d
 induction d with
 | zero =>
  intro i hd
  have hd' : decide ((i : Int) < p.length) = false := decide_eq_false (by omega)
  refine .inl ⟨by rw [List.drop_eq_nil_of_le (by omega)]; rfl, ?_⟩
  rw [ae]
  simp -implicitDefEqProofs (disch := (refine ab ?_; first | assumption | omega | (simp [go_sem] <;> omega) | with_unfolding_all rfl | decide)) only [go_sem, Nat.reduceAdd, Nat.reduceSub, reduceIte, reduceCtorEq, hd']
 | succ d ih =>
  intro i hd
  have hib : i < p.length := by omega
  have hd' : decide ((i : Int) < p.length) = true := decide_eq_true (by omega)
  have hge : (p.map encI)[(i : Int).toNat]? = some (encI p[i]) := by simp [hib]
  have hdr : p.drop i = p[i] :: p.drop (i + 1) := List.drop_eq_getElem_cons hib
  have e7 := uF (n := i) (by omega)
  have ih' := ih (i + 1) (by omega)
  rw [hdr, List.all_cons]
  generalize p[i] = k at *
  by_cases h1 : k < 0
  ·have e1 : decide (k < 0) = true := decide_eq_true h1
   have e2 : decide (0 ≤ k) = false := decide_eq_false (by omega)
   right
   rw [e2]
   rw [ae]
   simp -implicitDefEqProofs (disch := (refine ab ?_; first | assumption | omega | (simp [go_sem] <;> omega) | with_unfolding_all rfl | decide)) only [go_sem, Nat.reduceAdd, Nat.reduceSub, reduceIte, reduceCtorEq, hd', hge, encI, e1]
   exact ⟨_, rfl, rfl, rfl⟩
  ·have e1 : decide (k < 0) = false := decide_eq_false h1
   have e2 : decide (0 ≤ k) = true := decide_eq_true (by omega)
   by_cases h2 : k > 1048576
   ·have e3 : decide (k > 1048576) = true := decide_eq_true h2
    have e4 : decide (k ≤ 1048576) = false := decide_eq_false (by omega)
    right
    rw [e2, e4]
    rw [ae]
    simp -implicitDefEqProofs (disch := (refine ab ?_; first | assumption | omega | (simp [go_sem] <;> omega) | with_unfolding_all rfl | decide)) only [go_sem, Nat.reduceAdd, Nat.reduceSub, reduceIte, reduceCtorEq, hd', hge, encI, e1, e3]
    exact ⟨_, rfl, rfl, rfl⟩
   ·have e3 : decide (k > 1048576) = false := decide_eq_false h2
    have e4 : decide (k ≤ 1048576) = true := decide_eq_true (by omega)
    rw [e2, e4, Bool.true_and, Bool.true_and]
    rw [ae]
    simp -implicitDefEqProofs (disch := (refine ab ?_; first | assumption | omega | (simp [go_sem] <;> omega) | with_unfolding_all rfl | decide)) only [go_sem, Nat.reduceAdd, Nat.reduceSub, reduceIte, reduceCtorEq, hd', hge, encI, e1, e3, e7]
    exact ih'
theorem HU {p : List Int} {n : Int} : run T 91 [.agg [.sl .sh (p.map encI), .int .i64 n]] [] = some (.bool (fitC p n), []) := by
 rw [af T_91]
 unfold fitC
 by_cases h1 : n < 0
 ·have e1 : decide (n < 0) = true := decide_eq_true h1
  have e2 : decide (0 ≤ n) = false := decide_eq_false (by omega)
  rw [e2]
  simp -implicitDefEqProofs (disch := (refine ab ?_; first | assumption | omega | (simp [go_sem] <;> omega) | with_unfolding_all rfl | decide)) only [go_sem, Nat.reduceAdd, Nat.reduceSub, reduceIte, reduceCtorEq, bd, e1]
  rfl
 ·have e1 : decide (n < 0) = false := decide_eq_false h1
  have e2 : decide (0 ≤ n) = true := decide_eq_true (by omega)
  rw [e2]
  by_cases h2 : n > 65535
  ·have e3 : decide (n > 65535) = true := decide_eq_true h2
   have e4 : decide (n ≤ 65535) = false := decide_eq_false (by omega)
   rw [e4]
   simp -implicitDefEqProofs (disch := (refine ab ?_; first | assumption | omega | (simp [go_sem] <;> omega) | with_unfolding_all rfl | decide)) only [go_sem, Nat.reduceAdd, Nat.reduceSub, reduceIte, reduceCtorEq, bd, e1, e3]
   rfl
  ·have e3 : decide (n > 65535) = false := decide_eq_false h2
   have e4 : decide (n ≤ 65535) = true := decide_eq_true (by omega)
   rw [e4]
   by_cases h3 : p.length ≤ 6
   ·have e5 : decide ((p.length : Int) > 6) = false := decide_eq_false (by omega)
    rw [decide_eq_true h3]
    have hlp := D0 (h := [.cells [.sl .sh (p.map encI), .int .i64 n]]) h3 p.length 0 (by omega)
    simp only [List.drop_zero, show ((0 : Nat) : Int) = 0 from rfl] at hlp
    rcases hlp with ⟨k1, k2⟩ | ⟨σ, k1, k2, k3⟩
    ·rw [k1]
     simp -implicitDefEqProofs (disch := (refine ab ?_; first | assumption | omega | (simp [go_sem] <;> omega) | with_unfolding_all rfl | decide)) only [go_sem, Nat.reduceAdd, Nat.reduceSub, reduceIte, reduceCtorEq, bd, e1, e3, List.length_map, e5, k2]
    ·rw [k3]
     simp -implicitDefEqProofs (disch := (refine ab ?_; first | assumption | omega | (simp [go_sem] <;> omega) | with_unfolding_all rfl | decide)) only [go_sem, Nat.reduceAdd, Nat.reduceSub, reduceIte, reduceCtorEq, bd, e1, e3, List.length_map, e5, k1, k2]
   ·have e5 : decide ((p.length : Int) > 6) = true := decide_eq_true (by omega)
    rw [decide_eq_false h3]
    simp -implicitDefEqProofs (disch := (refine ab ?_; first | assumption | omega | (simp [go_sem] <;> omega) | with_unfolding_all rfl | decide)) only [go_sem, Nat.reduceAdd, Nat.reduceSub, reduceIte, reduceCtorEq, bd, e1, e3, List.length_map, e5]
    rfl
end Go.Proofs.YtibchilpaaiecaaGreatDoor.L
/- The document's categories: how a name is read; which is ahead. -/
set_option linter.all false
set_option maxRecDepth 100000
namespace Go.Proofs.YtibchilpaaiecaaGreatDoor.L
open Go.Proofs.YtibchilpaaiecaaGreatDoor.M Go.Proofs.YtibchilpaaiecaaGreatDoor.F Go.Proofs
def HG (p : List Int) : AH := [.cells [ow [], .int .i64 0], .cells [ow (p.map encI), .int .i64 0]]
theorem Lt {c : Nat} (h0 : 48 ≤ c) (h1 : c ≤ 57) : IntKind.u8.wrap ((c : Int) - 48) = ((c - 48 : Nat) : Int) := by rw [w8]; omega
set_option maxHeartbeats 4000000 in
theorem BU {s : List UInt8} (hs : s.length ≤ 1000000000) : ∀ (k i : Nat) (p : List Int) (n d : Nat), k + i = s.length → d ≤ 8 → n < 10 ^ d → p.length ≤ i →
  (∃ p' n', gK (s.drop i) p n d = some (p', n') ∧ den T (.loop aK) (aR (.str ⟨s.toArray⟩) (.box 0 0) (.box 1 0) (.int .i64 n) (.int .i64 d) (.int .i64 i)) (HG p) = some (.exit 0, gO (.str ⟨s.toArray⟩) (.box 0 0) (.box 1 0) (.int .i64 n'), HG p')) ∨
  (gK (s.drop i) p n d = none ∧ ∃ σ p', den T (.loop aK) (aR (.str ⟨s.toArray⟩) (.box 0 0) (.box 1 0) (.int .i64 n) (.int .i64 d) (.int .i64 i)) (HG p) = some (.ret, σ, HG p') ∧ σ.getD 2 aa = .box 0 0 ∧ σ.getD 3 aa = .bool false) := by
 intro k
 induction k with
 | zero =>
  intro i p n d hk hd hn hp
  have hd' : decide ((i : Int) < s.length) = false := decide_eq_false (by omega)
  refine .inl ⟨p, n, by rw [List.drop_eq_nil_of_le (by omega)]; rfl, ?_⟩
  rw [ae]
  simp -implicitDefEqProofs (disch := (refine ab ?_; first | assumption | omega | (simp [go_sem] <;> omega) | with_unfolding_all rfl | decide)) only [go_sem, Nat.reduceAdd, Nat.reduceSub, reduceIte, reduceCtorEq, hd']
 | succ k ih =>
  intro i p n d hk hd hn hp
  have hib : i < s.length := by omega
  have hd' : decide ((i : Int) < s.length) = true := decide_eq_true (by omega)
  have hge : s[(i : Int).toNat]? = some s[i] := by simp [hib]
  have hdr : s.drop i = s[i] :: s.drop (i + 1) := List.drop_eq_getElem_cons hib
  have e7 := uF (n := i) (by omega)
  rw [hdr]
  generalize s[i] = c at *
  have hcl := c.toNat_lt
  have h8 : n < 100000000 := Nat.lt_of_lt_of_le hn (Nat.pow_le_pow_right (n := 10) (by omega) hd)
  have e8 := uF (n := d) (by omega)
  by_cases hdig : 48 ≤ c.toNat ∧ c.toNat ≤ 57
  ·have e1 : decide ((c.toNat : Int) ≥ 48) = true := decide_eq_true (by omega)
   have e2 : decide ((c.toNat : Int) ≤ 57) = true := decide_eq_true (by omega)
   simp only [gK]
   rw [if_pos hdig]
   by_cases h9 : 8 ≤ d
   ·have e3 : decide (((d + 1 : Nat) : Int) > 8) = true := decide_eq_true (by omega)
    rw [if_pos h9]
    right
    refine ⟨rfl, ?_⟩
    rw [ae]
    simp -implicitDefEqProofs (disch := (refine ab ?_; first | assumption | omega | (simp [go_sem] <;> omega) | with_unfolding_all rfl | decide)) only [go_sem, Nat.reduceAdd, Nat.reduceSub, reduceIte, reduceCtorEq, HG, hd', hge, e1, e2, e8, e3]
    exact ⟨_, p, ⟨rfl, rfl⟩, rfl, rfl⟩
   ·have e3 : decide (((d + 1 : Nat) : Int) > 8) = false := decide_eq_false (by omega)
    have e4 := Lt hdig.1 hdig.2
    have e5 : IntKind.i64.wrap ((c.toNat - 48 : Nat) : Int) = ((c.toNat - 48 : Nat) : Int) := w64 (by omega) (by omega)
    have e6 : IntKind.i64.wrap (10 * (n : Int)) = ((10 * n : Nat) : Int) := by rw [w64 (by omega) (by omega)]; omega
    have e9 : IntKind.i64.wrap (((10 * n : Nat) : Int) + ((c.toNat - 48 : Nat) : Int)) = ((10 * n + (c.toNat - 48) : Nat) : Int) := by rw [← Int.natCast_add, w64 (by omega) (by omega)]
    rw [if_neg h9]
    have hp10 : 10 ^ (d + 1) = 10 ^ d * 10 := Nat.pow_succ ..
    have := ih (i + 1) p (10 * n + (c.toNat - 48)) (d + 1) (by omega) (by omega) (by omega) (by omega)
    have hstep : den T (.loop aK) (aR (.str ⟨s.toArray⟩) (.box 0 0) (.box 1 0) (.int .i64 n) (.int .i64 d) (.int .i64 i)) (HG p) = den T (.loop aK) (aR (.str ⟨s.toArray⟩) (.box 0 0) (.box 1 0) (.int .i64 (10 * n + (c.toNat - 48) : Nat)) (.int .i64 (d + 1 : Nat)) (.int .i64 (i + 1 : Nat))) (HG p) := by
     rw [ae]
     simp -implicitDefEqProofs (disch := (refine ab ?_; first | assumption | omega | (simp [go_sem] <;> omega) | with_unfolding_all rfl | decide)) only [go_sem, Nat.reduceAdd, Nat.reduceSub, reduceIte, reduceCtorEq, HG, hd', hge, e1, e2, e8, e3, e4, e5, e6, e9, e7]
     rfl
    rw [hstep]
    exact this
  ·simp only [gK]
   rw [if_neg hdig]
   have hno : ∃ b1 b2 : Bool, decide ((c.toNat : Int) ≥ 48) = b1 ∧ decide ((c.toNat : Int) ≤ 57) = b2 ∧ (b1 = false ∨ (b1 = true ∧ b2 = false)) := by
    refine ⟨_, _, rfl, rfl, ?_⟩
    by_cases h1 : 48 ≤ c.toNat
    ·right; exact ⟨decide_eq_true (by omega), decide_eq_false (by omega)⟩
    ·left; exact decide_eq_false (by omega)
   obtain ⟨b1, b2, e1, e2, hb⟩ := hno
   have key : ∀ (q : List Int) (m d' : Nat), gK (s.drop (i + 1)) q m d' = gK (s.drop (i + 1)) q m d' → q.length ≤ i + 1 → d' ≤ 8 → m < 10 ^ d' →
     den T (.loop aK) (aR (.str ⟨s.toArray⟩) (.box 0 0) (.box 1 0) (.int .i64 n) (.int .i64 d) (.int .i64 i)) (HG p) = den T (.loop aK) (aR (.str ⟨s.toArray⟩) (.box 0 0) (.box 1 0) (.int .i64 m) (.int .i64 d') (.int .i64 (i + 1 : Nat))) (HG q) →
     (∃ p' n', gK (s.drop (i + 1)) q m d' = some (p', n') ∧ den T (.loop aK) (aR (.str ⟨s.toArray⟩) (.box 0 0) (.box 1 0) (.int .i64 n) (.int .i64 d) (.int .i64 i)) (HG p) = some (.exit 0, gO (.str ⟨s.toArray⟩) (.box 0 0) (.box 1 0) (.int .i64 n'), HG p')) ∨
     (gK (s.drop (i + 1)) q m d' = none ∧ ∃ σ p', den T (.loop aK) (aR (.str ⟨s.toArray⟩) (.box 0 0) (.box 1 0) (.int .i64 n) (.int .i64 d) (.int .i64 i)) (HG p) = some (.ret, σ, HG p') ∧ σ.getD 2 aa = .box 0 0 ∧ σ.getD 3 aa = .bool false) := by
    intro q m d' _ hq hd2 hm hstep
    rw [hstep]
    exact ih (i + 1) q m d' (by omega) hd2 hm hq
   by_cases h46 : c = 46 ∨ c = 47
   ·rw [if_pos h46]
    have hf : ∃ f1 f2 : Bool, ((c.toNat : Int) == 46) = f1 ∧ ((c.toNat : Int) == 47) = f2 ∧ (f1 = true ∨ (f1 = false ∧ f2 = true)) := by
     refine ⟨_, _, rfl, rfl, ?_⟩
     rcases h46 with rfl | rfl
     ·left; rfl
     ·right; exact ⟨rfl, rfl⟩
    obtain ⟨f1, f2, g1, g2, hf⟩ := hf
    by_cases h0 : 0 < d
    ·have e3 : decide ((d : Int) > 0) = true := decide_eq_true (by omega)
     rw [if_pos h0]
     refine key (p ++ [(n : Int)]) 0 0 rfl (by simp; omega) (by omega) (by simp) ?_
     have e9 : (p ++ [(n : Int)]).map encI = p.map encI ++ [[.int .i64 (n : Int)]] := by simp [encI]
     rcases hb with rfl | ⟨rfl, rfl⟩ <;> rcases hf with rfl | ⟨rfl, rfl⟩ <;>
     ·rw [ae]
      simp (maxSteps := 2000000) -implicitDefEqProofs (disch := (refine ab ?_; first | assumption | omega | (simp [go_sem] <;> omega) | with_unfolding_all rfl | decide)) only [go_sem, Nat.reduceAdd, Nat.reduceSub, reduceIte, reduceCtorEq, HG, hd', hge, e1, e2, g1, g2, e3, e9, e7]
      rfl
    ·have e3 : decide ((d : Int) > 0) = false := decide_eq_false (by omega)
     rw [if_neg h0]
     refine key p 0 0 rfl (by omega) (by omega) (by simp) ?_
     rcases hb with rfl | ⟨rfl, rfl⟩ <;> rcases hf with rfl | ⟨rfl, rfl⟩ <;>
     ·rw [ae]
      simp -implicitDefEqProofs (disch := (refine ab ?_; first | assumption | omega | (simp [go_sem] <;> omega) | with_unfolding_all rfl | decide)) only [go_sem, Nat.reduceAdd, Nat.reduceSub, reduceIte, reduceCtorEq, HG, hd', hge, e1, e2, g1, g2, e3, e7]
      rfl
   ·rw [if_neg h46]
    refine key p n d rfl (by omega) hd hn ?_
    have g1 : ((c.toNat : Int) == 46) = false := by
     rw [beq_eq_false_iff_ne]
     intro h
     exact h46 (.inl (UInt8.toNat_inj.1 (by simpa using (show c.toNat = 46 by omega))))
    have g2 : ((c.toNat : Int) == 47) = false := by
     rw [beq_eq_false_iff_ne]
     intro h
     exact h46 (.inr (UInt8.toNat_inj.1 (by simpa using (show c.toNat = 47 by omega))))
    rcases hb with rfl | ⟨rfl, rfl⟩ <;>
    ·rw [ae]
     simp -implicitDefEqProofs (disch := (refine ab ?_; first | assumption | omega | (simp [go_sem] <;> omega) | with_unfolding_all rfl | decide)) only [go_sem, Nat.reduceAdd, Nat.reduceSub, reduceIte, reduceCtorEq, HG, hd', hge, e1, e2, g1, g2, e7]
     rfl
theorem kZ {s : List UInt8} (hs : s.length ≤ 1000000000) : run T 54 [.str ⟨s.toArray⟩] [] = some (.tup [.agg [.sl .sh ((parC s).1.map encI), .int .i64 (parC s).2.1], .bool (parC s).2.2], []) := by
 have hlp := BU hs s.length 0 [] 0 0 (by omega) (by omega) (by simp) (by simp)
 simp only [List.drop_zero, show ((0 : Nat) : Int) = 0 from rfl] at hlp
 rw [← DW]
 unfold refC
 rw [af T_54]
 rcases hlp with ⟨p, n, h1, h2⟩ | ⟨h1, σ, p, h2, h3, h4⟩
 ·rw [h1]
  simp only [HG, List.map_nil] at h2 ⊢
  have f1 := HU (p := p) (n := n)
  cases hf : fitC p n with
  | false =>
   rw [hf] at f1
   simp only [Bool.false_eq_true, false_and, if_false]
   simp -implicitDefEqProofs (disch := (refine ab ?_; first | assumption | omega | (simp [go_sem] <;> omega) | with_unfolding_all rfl | decide)) only [go_sem, Nat.reduceAdd, Nat.reduceSub, reduceIte, reduceCtorEq, bL, h2, f1]
  | true =>
   rw [hf] at f1
   have f2 := DZ hf
   by_cases ht : txtC p n = s
   ·have e1 : (!(txtC p n == s)) = false := by simp [ht]
    rw [if_pos ⟨rfl, ht⟩]
    simp -implicitDefEqProofs (disch := (refine ab ?_; first | assumption | omega | (simp [go_sem] <;> omega) | with_unfolding_all rfl | decide)) only [go_sem, Nat.reduceAdd, Nat.reduceSub, reduceIte, reduceCtorEq, bL, h2, f1, f2, e1]
   ·have e1 : (!(txtC p n == s)) = true := by simp [ht]
    rw [if_neg (fun x => ht x.2)]
    simp -implicitDefEqProofs (disch := (refine ab ?_; first | assumption | omega | (simp [go_sem] <;> omega) | with_unfolding_all rfl | decide)) only [go_sem, Nat.reduceAdd, Nat.reduceSub, reduceIte, reduceCtorEq, bL, h2, f1, f2, e1]
 ·rw [h1]
  simp only [HG, List.map_nil] at h2 ⊢
  simp -implicitDefEqProofs (disch := (refine ab ?_; first | assumption | omega | (simp [go_sem] <;> omega) | with_unfolding_all rfl | decide)) only [go_sem, Nat.reduceAdd, Nat.reduceSub, reduceIte, reduceCtorEq, bL, h2, h3, h4]
theorem BV {s : List UInt8} {h : AH} (hs : s.length ≤ 1000000000) : run T 98 [.str ⟨s.toArray⟩] h = some (.bool (rigC s), h) := by
 have h1 := kZ hs
 rw [af T_98]
 unfold rigC
 simp -implicitDefEqProofs (disch := (refine ab ?_; first | assumption | omega | (simp [go_sem] <;> omega) | with_unfolding_all rfl | decide)) only [go_sem, Nat.reduceAdd, Nat.reduceSub, reduceIte, reduceCtorEq, dz, h1]
end Go.Proofs.YtibchilpaaiecaaGreatDoor.L
/- The document's bytes and replies: numbers, texts, labels, replies. -/
set_option linter.all false
set_option maxRecDepth 100000
namespace Go.Proofs.YtibchilpaaiecaaGreatDoor.L
open Go.Proofs.YtibchilpaaiecaaGreatDoor.M Go.Proofs.YtibchilpaaiecaaGreatDoor.F Go.Proofs
end Go.Proofs.YtibchilpaaiecaaGreatDoor.L
/- The document's replies: their bytes. -/
set_option linter.all false
set_option maxRecDepth 100000
namespace Go.Proofs.YtibchilpaaiecaaGreatDoor.L
open Go.Proofs.YtibchilpaaiecaaGreatDoor.M Go.Proofs.YtibchilpaaiecaaGreatDoor.F Go.Proofs
end Go.Proofs.YtibchilpaaiecaaGreatDoor.L
/- The document's numbers as they are told: of any int. -/
set_option linter.all false
set_option maxRecDepth 100000
namespace Go.Proofs.YtibchilpaaiecaaGreatDoor.L
open Go.Proofs.YtibchilpaaiecaaGreatDoor.M Go.Proofs.YtibchilpaaiecaaGreatDoor.F Go.Proofs
theorem k8 (u : Nat) (h : u ≤ 9223372036854775808) : (tailD u).length ≤ 19 := by
 have h1 := kM 19 u (by omega)
 rw [pV] at h1
 simp at h1; omega
theorem Lu {n : Nat} (h : n ≤ 9223372036854775807) : IntKind.i64.wrap ((n : Int).tdiv 10) = ((n / 10 : Nat) : Int) := by
 rw [Int.tdiv_eq_ediv_of_nonneg (by omega), w64 (by omega) (by omega)]; omega
theorem BW {h : AH} : ∀ (u : Nat) (r : List UInt8), u ≤ 9223372036854775807 → (tailD u).length + r.length ≤ 1000 →
  den T (.loop eS) (gP (.int .i64 u) (.str ⟨r.toArray⟩)) h = some (.exit 2, gQ (.int .i64 (topD u : Nat)) (.str ⟨(tailD u ++ r).toArray⟩), h) := by
 intro u
 induction u using Nat.strongRecOn with
 | _ u ih =>
  intro r hu hr
  rw [ae]
  by_cases hc : u < 10
  ·have hd : decide ((u : Int) ≥ 10) = false := decide_eq_false (by omega)
   rw [topD, tailD]
   simp -implicitDefEqProofs (disch := (refine ab ?_; first | assumption | omega | (simp [go_sem] <;> omega) | with_unfolding_all rfl | decide)) only [go_sem, Nat.reduceAdd, Nat.reduceSub, reduceIte, reduceCtorEq, hc, hd, dite_true, List.nil_append]
  ·have hd : decide ((u : Int) ≥ 10) = true := decide_eq_true (by omega)
   have hsl := dslc (d := u % 10) (by omega)
   have hi := incN (n := u % 10) (by omega)
   have hq := Lu hu
   rw [tailD, dif_neg hc, List.length_append, List.length_cons, List.length_nil] at hr
   have := ih (u / 10) (by omega) (UInt8.ofNat (48 + u % 10) :: r) (by omega) (by rw [List.length_cons]; omega)
   rw [topD, tailD]
   simp only [hc, dite_false, List.append_assoc, List.singleton_append]
   have e1 : (u : Int).tmod 10 = ((u % 10 : Nat) : Int) := tm10
   simp -implicitDefEqProofs (disch := (refine ab ?_; first | assumption | omega | (simp [go_sem] <;> omega) | with_unfolding_all rfl | decide)) only [go_sem, Nat.reduceAdd, Nat.reduceSub, reduceIte, reduceCtorEq, hd, e1, hi, hsl, hq, List.cons_append, List.nil_append]
   exact this
theorem BX {h : AH} : ∀ (u : Nat) (r : List UInt8), u ≤ 9223372036854775808 → (tailD u).length + r.length ≤ 1000 →
  den T (.loop gR) (lG (.int .i64 (-(u : Int))) (.str ⟨r.toArray⟩)) h = some (.exit 0, lH (.int .i64 (-((topD u : Nat) : Int))) (.str ⟨(tailD u ++ r).toArray⟩), h) := by
 intro u
 induction u using Nat.strongRecOn with
 | _ u ih =>
  intro r hu hr
  rw [ae]
  by_cases hc : u < 10
  ·have hd : decide (-(u : Int) ≤ -10) = false := decide_eq_false (by omega)
   rw [topD, tailD]
   simp -implicitDefEqProofs (disch := (refine ab ?_; first | assumption | omega | (simp [go_sem] <;> omega) | with_unfolding_all rfl | decide)) only [go_sem, Nat.reduceAdd, Nat.reduceSub, reduceIte, reduceCtorEq, hc, hd, dite_true, List.nil_append]
  ·have hd : decide (-(u : Int) ≤ -10) = true := decide_eq_true (by omega)
   have hsl := dslc (d := u % 10) (by omega)
   have hi := incN (n := u % 10) (by omega)
   have hq : IntKind.i64.wrap ((-(u : Int)).tdiv 10) = -((u / 10 : Nat) : Int) := by
    rw [Int.neg_tdiv, Int.tdiv_eq_ediv_of_nonneg (by omega), w64 (by omega) (by omega)]; omega
   have e1 : IntKind.i64.wrap (0 - (-(u : Int)).tmod 10) = ((u % 10 : Nat) : Int) := by
    rw [Int.neg_tmod, Int.tmod_eq_emod_of_nonneg (by omega), w64 (by omega) (by omega)]; omega
   rw [tailD, dif_neg hc, List.length_append, List.length_cons, List.length_nil] at hr
   have := ih (u / 10) (by omega) (UInt8.ofNat (48 + u % 10) :: r) (by omega) (by rw [List.length_cons]; omega)
   rw [topD, tailD]
   simp only [hc, dite_false, List.append_assoc, List.singleton_append]
   simp -implicitDefEqProofs (disch := (refine ab ?_; first | assumption | omega | (simp [go_sem] <;> omega) | with_unfolding_all rfl | decide)) only [go_sem, Nat.reduceAdd, Nat.reduceSub, reduceIte, reduceCtorEq, hd, e1, hi, hsl, hq, List.cons_append, List.nil_append]
   exact this
theorem D1 {n : Int} {h : AH} (h0 : -9223372036854775808 ≤ n) (h1 : n ≤ 9223372036854775807) : run T 76 [.int .i64 n] h = some (.str ⟨(Lib.itoa n).toArray⟩, h) := by
 rw [af T_76]
 unfold Lib.itoa
 by_cases hn : n < 0
 ·obtain ⟨u, rfl⟩ : ∃ u : Nat, n = -(u : Int) := ⟨n.natAbs, by omega⟩
  have hu : u ≤ 9223372036854775808 := by omega
  have hlp := BX (h := h) u [] hu (by have := k8 u hu; simp; omega)
  have d1 : decide (-(u : Int) < 0) = true := decide_eq_true (by omega)
  have ht := vW u
  have hsl := dslc ht
  have hi := incN (n := topD u) (by omega)
  have htl := k8 u hu
  have e1 : IntKind.i64.wrap (0 - -((topD u : Nat) : Int)) = ((topD u : Nat) : Int) := by rw [w64 (by omega) (by omega)]; omega
  rw [List.append_nil] at hlp
  rw [if_pos hn, show (-(u : Int)).natAbs = u by omega, pV]
  simp -implicitDefEqProofs (disch := (refine ab ?_; first | assumption | omega | (simp [go_sem] <;> omega) | with_unfolding_all rfl | decide)) only [go_sem, Nat.reduceAdd, Nat.reduceSub, reduceIte, reduceCtorEq, cu, d1, hlp, e1, hi, hsl, List.cons_append, List.nil_append]
 ·obtain ⟨u, rfl⟩ : ∃ u : Nat, n = (u : Int) := ⟨n.toNat, by omega⟩
  have hu : u ≤ 9223372036854775807 := by omega
  have hlp := BW (h := h) u [] hu (by have := k8 u (by omega); simp; omega)
  have d1 : decide ((u : Int) < 0) = false := decide_eq_false (by omega)
  have ht := vW u
  have hsl := dslc ht
  have hi := incN (n := topD u) (by omega)
  have htl := k8 u (by omega)
  rw [List.append_nil] at hlp
  rw [if_neg hn, Int.toNat_natCast, pV]
  simp -implicitDefEqProofs (disch := (refine ab ?_; first | assumption | omega | (simp [go_sem] <;> omega) | with_unfolding_all rfl | decide)) only [go_sem, Nat.reduceAdd, Nat.reduceSub, reduceIte, reduceCtorEq, cu, d1, hlp, hi, hsl, List.cons_append, List.nil_append]
theorem D2 {n : Int} {h : AH} (h0 : -9223372036854775808 ≤ n) (h1 : n ≤ 9223372036854775807) : run T 34 [.int .i64 n] h = some (.str ⟨(Lib.itoa n).toArray⟩, h) := by
 have h1 := D1 (h := []) h0 h1
 rw [af T_34]
 simp -implicitDefEqProofs (disch := (refine ab ?_; first | assumption | omega | (simp [go_sem] <;> omega) | with_unfolding_all rfl | decide)) only [go_sem, Nat.reduceAdd, Nat.reduceSub, reduceIte, reduceCtorEq, de, h1]
theorem na {n : Int} (h0 : -9223372036854775808 ≤ n) (h1 : n ≤ 9223372036854775807) : (Lib.itoa n).length ≤ 21 := by
 unfold Lib.itoa
 split
 ·have := kM 19 n.natAbs (by omega)
  simp; omega
 ·have := kM 19 n.toNat (by omega)
  omega
end Go.Proofs.YtibchilpaaiecaaGreatDoor.L
/- Texts: strings joined; labels told, the program's way and the document's. -/
set_option linter.all false
set_option maxRecDepth 100000
namespace Go.Proofs.YtibchilpaaiecaaGreatDoor.L
open Go.Proofs.YtibchilpaaiecaaGreatDoor.M Go.Proofs.YtibchilpaaiecaaGreatDoor.F Go.Proofs
def i64 (n : Int) : Prop := -9223372036854775808 ≤ n ∧ n ≤ 9223372036854775807
theorem Fs : ∀ (l : List (List UInt8)), M.decS (l.map encT) = some (l.map fun s => (⟨s.toArray⟩ : ByteArray))
 | [] => rfl
 | a :: l => by
  show (M.decS (l.map encT)).map (fun r => (⟨a.toArray⟩ : ByteArray) :: r) = _
  rw [Fs l]; rfl
theorem sT {l : List (List UInt8)} {sep : List UInt8} {h : AH} (h1 : l.length ≤ 140737488355328) (h2 : (Lib.join l sep).length ≤ 140737488355328) : run T 29 [.sl .sh (l.map encT), .str ⟨sep.toArray⟩] h = some (.str ⟨(Lib.join l sep).toArray⟩, h) := by
 rw [eG T_29]
 have hm : (l.map fun s => (⟨s.toArray⟩ : ByteArray)).map (fun x => x.data.toList) = l := by
  rw [List.map_map]
  conv => rhs; rw [← List.map_id l]
  exact List.map_congr_left fun x _ => by simp
 unfold M.cU
 simp only [Fs]
 rw [if_pos ⟨by rw [List.length_map]; exact h1, by rw [hm]; simpa using h2⟩]
 unfold JU
 rw [hm]
theorem join_le {B : Nat} {sep : List UInt8} : ∀ {l : List (List UInt8)}, (∀ x ∈ l, x.length ≤ B) → (Lib.join l sep).length ≤ l.length * (B + sep.length)
 | [], _ => by simp [Lib.join_nil]
 | x :: r, h => by
  rw [Lib.join_cons, List.length_append]
  have h0 := h x (by simp)
  have key : ∀ r : List (List UInt8), (∀ y ∈ r, y.length ≤ B) → (Lib.joinTail sep r).length ≤ r.length * (B + sep.length) := by
   intro r
   induction r with
   | nil => intro _; simp [Lib.joinTail]
   | cons y r ih =>
    intro hr
    have := ih fun z hz => hr z (by simp [hz])
    have hy := hr y (by simp)
    simp only [Lib.joinTail, List.map_cons, List.flatten_cons, List.length_append, List.length_cons] at this ⊢
    rw [Nat.succ_mul]; omega
  have := key r fun y hy => h y (by simp [hy])
  rw [List.length_cons, Nat.succ_mul]; omega
def lblT (e : Ent) : List UInt8 := e.1 ++ 61 :: Lib.itoa e.2
def labT (l : List Ent) : List UInt8 := if l = [] then [45] else Lib.join (l.map lblT) [44]
def okE (e : Ent) : Prop := e.1.length ≤ 1048576 ∧ i64 e.2
theorem xF {e : Ent} (h : okE e) : (lblT e).length ≤ 1048600 := by
 have := na h.2.1 h.2.2
 have := h.1
 simp only [lblT, List.length_append, List.length_cons]; omega
set_option maxHeartbeats 4000000 in
theorem D3 {l : List Ent} (hl : ∀ e ∈ l, okE e) (hll : l.length ≤ 1000) : ∀ (d i : Nat) (js : AH) (p : List (List UInt8)), d + i = l.length → p.length ≤ 10000 + i →
  den T (.loop lR) (qo (ow (p.map encT)) (.sl .sh (l.map encE)) (.int .i64 l.length) (.int .i64 i)) js = some (.exit 0, qp (ow ((p ++ (l.drop i).map lblT).map encT)), js ++ (l.drop i).map bxE) := by
 intro d
 induction d with
 | zero =>
  intro i js p hd hb
  have hd' : decide ((i : Int) < l.length) = false := decide_eq_false (by omega)
  rw [List.drop_eq_nil_of_le (by omega), List.map_nil, List.append_nil, List.map_nil, List.append_nil]
  rw [ae]
  simp -implicitDefEqProofs (disch := (refine ab ?_; first | assumption | omega | (simp [go_sem] <;> omega) | with_unfolding_all rfl | decide)) only [go_sem, Nat.reduceAdd, Nat.reduceSub, reduceIte, reduceCtorEq, hd']
 | succ d ih =>
  intro i js p hd hb
  have hib : i < l.length := by omega
  have hd' : decide ((i : Int) < l.length) = true := decide_eq_true (by omega)
  have hge : (l.map encE)[(i : Int).toNat]? = some (encE l[i]) := by simp [hib]
  have hdr : l.drop i = l[i] :: l.drop (i + 1) := List.drop_eq_getElem_cons hib
  have hcl := hl l[i] (by simp)
  rw [hdr]
  generalize l[i] = e at *
  obtain ⟨c, v⟩ := e
  have h1 := hcl.1
  have h2 := na hcl.2.1 hcl.2.2
  have t1 := ox (h := []) hcl.2.1 hcl.2.2
  simp only at h1 h2 t1
  have e7 := incN (n := i) (by omega)
  have ih' := ih (i + 1) (js ++ [bxE (c, v)]) (p ++ [lblT (c, v)]) (by omega) (by simp; omega)
  have hap : (p ++ [lblT (c, v)]).map encT = p.map encT ++ [[.str ⟨(c ++ 61 :: Lib.itoa v).toArray⟩]] := by simp [encT, lblT]
  have hml : (p.map encT).length = p.length := List.length_map ..
  rw [hap] at ih'
  simp only [List.map_cons, List.append_assoc, List.singleton_append] at ih' ⊢
  simp only [bxE, encE] at ih' ⊢
  rw [ae]
  simp (maxSteps := 2000000) -implicitDefEqProofs (disch := (refine ab ?_; first | assumption | omega | (simp [go_sem] <;> omega) | with_unfolding_all rfl | decide)) only [go_sem, Nat.reduceAdd, Nat.reduceSub, reduceIte, reduceCtorEq, hd', hge, encE, ew, ey, t1, e7, hml]
  exact ih'
theorem vX {l : List Ent} (hl : ∀ e ∈ l, okE e) (hll : l.length ≤ 1000) : run T 59 [.sl .sh (l.map encE)] [] = some (.str ⟨(labT l).toArray⟩, []) := by
 rw [af T_59]
 unfold labT
 by_cases h0 : l = []
 ·subst h0
  rw [if_pos rfl]
  simp -implicitDefEqProofs (disch := (refine ab ?_; first | assumption | omega | (simp [go_sem] <;> omega) | with_unfolding_all rfl | decide)) only [go_sem, Nat.reduceAdd, Nat.reduceSub, reduceIte, reduceCtorEq, gq, List.map_nil, show (((0 : Nat) : Int) == 0) = true from rfl]
 ·rw [if_neg h0]
  have hz : ((l.length : Int) == 0) = false := by
   have : l.length ≠ 0 := fun e => h0 (List.length_eq_zero_iff.1 e)
   simp; omega
  have hlp := D3 hl hll l.length 0 [] [] (by omega) (by simp)
  simp only [List.drop_zero, List.map_nil, List.nil_append, show ((0 : Nat) : Int) = 0 from rfl] at hlp
  have hj := fun h => sT (l := l.map lblT) (sep := [44]) (h := h) (by rw [List.length_map]; omega) (by
   have := join_le (B := 1048600) (sep := [44]) (l := l.map lblT) (fun x hx => by obtain ⟨e, he, rfl⟩ := List.mem_map.1 hx; exact xF (hl e he))
   rw [List.length_map, List.length_singleton] at this
   have : l.length * (1048600 + 1) ≤ 1000 * 1048601 := Nat.mul_le_mul hll (Nat.le_refl _)
   omega)
  have hlb : (l.map encE).length = l.length := List.length_map ..
  generalize l.map lblT = L at *
  simp (maxSteps := 2000000) -implicitDefEqProofs (disch := (refine ab ?_; first | assumption | omega | (simp [go_sem] <;> omega) | with_unfolding_all rfl | decide)) only [go_sem, Nat.reduceAdd, Nat.reduceSub, reduceIte, reduceCtorEq, gq, hlb, hz, hlp, hj]
end Go.Proofs.YtibchilpaaiecaaGreatDoor.L
/- The document's reading of a path's text: the same as the program's. -/
set_option linter.all false
set_option maxRecDepth 100000
namespace Go.Proofs.YtibchilpaaiecaaGreatDoor.L
open Go.Proofs.YtibchilpaaiecaaGreatDoor.M Go.Proofs.YtibchilpaaiecaaGreatDoor.F Go.Proofs
def refQ : List UInt8 → Nat → Nat → List Int → Option (List Int)
 | [], n, _, p => some (p ++ [(n : Int)])
 | c :: r, n, d, p => if c = 46 then refQ r 0 0 (p ++ [(n : Int)]) else if c.toNat < 48 ∨ 57 < c.toNat ∨ 7 < d + 1 then none else refQ r (10 * n + (c.toNat - 48)) (d + 1) p
def refP (s : List UInt8) : List Int × Bool :=
 if s = [] then ([], true) else match refQ s 0 0 [] with
  | none => ([], false)
  | some q => if rigP q = true ∧ dotT q = s then (q, true) else ([], false)
theorem mi (u : Nat) : Lib.decDigits u = (if u < 10 then [] else Lib.decDigits (u / 10)) ++ [UInt8.ofNat (48 + u % 10)] := by
 conv => lhs; rw [Lib.decDigits]
 split
 ·rename_i h; rw [Nat.mod_eq_of_lt h]; rfl
 ·rfl
theorem sU : ∀ (k u : Nat) (rest : List UInt8) (d : Nat) (p : List Int), u < 10 ^ k → 0 < k → d = 0 → k ≤ 7 → ∃ j, j ≤ k ∧ refQ (Lib.decDigits u ++ rest) 0 d p = refQ rest u j p
 | 0, u, rest, d, p, h, hk, _, _ => absurd hk (by omega)
 | k + 1, u, rest, d, p, h, hk, hd, h7 => by
  subst hd
  have hm : u % 10 < 10 := Nat.mod_lt _ (by omega)
  have hc : (UInt8.ofNat (48 + u % 10)).toNat = 48 + u % 10 := by simp; omega
  have hne : UInt8.ofNat (48 + u % 10) ≠ 46 := by
   intro q
   have := congrArg UInt8.toNat q
   rw [hc] at this
   simp at this; omega
  rw [mi]
  by_cases h10 : u < 10
  ·rw [if_pos h10, List.nil_append, List.cons_append, List.nil_append, refQ, if_neg hne, if_neg (by rw [hc]; omega), hc]
   refine ⟨0 + 1, by omega, ?_⟩
   congr 1
   omega
  ·rw [if_neg h10, List.append_assoc]
   have hk0 : 0 < k := by
    rcases Nat.eq_zero_or_pos k with q | q
    ·subst q; simp at h; omega
    ·exact q
   obtain ⟨j, hj, e⟩ := sU k (u / 10) ([UInt8.ofNat (48 + u % 10)] ++ rest) 0 p (by rw [Nat.pow_succ] at h; omega) hk0 rfl (by omega)
   rw [e, List.cons_append, List.nil_append, refQ, if_neg hne, if_neg (by rw [hc]; omega), hc]
   refine ⟨j + 1, by omega, ?_⟩
   congr 1
   omega
theorem xG : ∀ (p a : List Int), p ≠ [] → (∀ k ∈ p, 0 ≤ k ∧ k ≤ 1048576) → refQ (cU (p.map Lib.itoa)) 0 0 a = some (a ++ p)
 | [], _, h, _ => absurd rfl h
 | [k], a, _, h => by
  obtain ⟨h1, h2⟩ := h k (by simp)
  obtain ⟨u, rfl⟩ : ∃ u : Nat, k = u := ⟨k.toNat, by omega⟩
  obtain ⟨j, _, e⟩ := sU 7 u [] 0 a (by omega) (by omega) rfl (by omega)
  rw [List.append_nil] at e
  simp only [List.map_cons, List.map_nil, cU, dp]
  rw [e]; rfl
 | k :: k2 :: p, a, _, h => by
  obtain ⟨h1, h2⟩ := h k (by simp)
  obtain ⟨u, rfl⟩ : ∃ u : Nat, k = u := ⟨k.toNat, by omega⟩
  have ih := xG (k2 :: p) (a ++ [(u : Int)]) (by simp) (fun x hx => h x (List.mem_cons_of_mem _ hx))
  obtain ⟨j, _, e⟩ := sU 7 u (46 :: cU ((k2 :: p).map Lib.itoa)) 0 a (by omega) (by omega) rfl (by omega)
  have hj : cU (((u : Int) :: k2 :: p).map Lib.itoa) = Lib.decDigits u ++ 46 :: cU ((k2 :: p).map Lib.itoa) := by
   simp only [List.map_cons, cU, dp]
  rw [hj, e, refQ, if_pos rfl, ih]
  simp
theorem HV (s : List UInt8) : refP s = prsP s := by
 by_cases h0 : s = []
 ·subst h0; rfl
 by_cases h : ∃ p, rigP p = true ∧ dotT p = s
 ·obtain ⟨p, hr, rfl⟩ := h
  rw [BA hr]
  unfold refP
  rw [if_neg h0]
  have hp : p ≠ [] := fun q => h0 (by rw [q]; rfl)
  have := xG p [] hp (fG hr).2
  rw [iZ] at this
  unfold dotT at *
  rw [this]
  simp [hr]
 ·have e1 : refP s = ([], false) := by
   unfold refP
   rw [if_neg h0]
   split
   ·rfl
   ·rename_i q hq
    rw [if_neg fun z => h ⟨q, z⟩]
  have e2 : prsP s = ([], false) := by
   unfold prsP
   rw [if_neg h0]
   split
   ·rfl
   ·rename_i q hq
    rw [if_neg fun z => h ⟨q, z⟩]
  rw [e1, e2]
end Go.Proofs.YtibchilpaaiecaaGreatDoor.L
/- The document's paths: right, told, put, parsed. -/
set_option linter.all false
set_option maxRecDepth 100000
namespace Go.Proofs.YtibchilpaaiecaaGreatDoor.L
open Go.Proofs.YtibchilpaaiecaaGreatDoor.M Go.Proofs.YtibchilpaaiecaaGreatDoor.F Go.Proofs
theorem D4 {l : List Int} {h : AH} (hl : l.length ≤ 1000000000) : ∀ (d i : Nat), d + i = l.length →
  ((l.drop i).all okN = true ∧ den T (.loop bR) (cT (.sl .sh (l.map encI)) (.sl .sh (l.map encI)) (.int .i64 l.length) (.int .i64 i)) h = some (.exit 0, j0 (.sl .sh (l.map encI)), h)) ∨
  ((l.drop i).all okN = false ∧ ∃ σ, den T (.loop bR) (cT (.sl .sh (l.map encI)) (.sl .sh (l.map encI)) (.int .i64 l.length) (.int .i64 i)) h = some (.ret, σ, h) ∧ σ.getD 2 aa = .bool false) := by
 intro d
 induction d with
 | zero =>
  intro i hd
  have hd' : decide ((i : Int) < l.length) = false := decide_eq_false (by omega)
  refine .inl ⟨by rw [List.drop_eq_nil_of_le (by omega)]; rfl, ?_⟩
  rw [ae]
  simp -implicitDefEqProofs (disch := (refine ab ?_; first | assumption | omega | (simp [go_sem] <;> omega) | with_unfolding_all rfl | decide)) only [go_sem, Nat.reduceAdd, Nat.reduceSub, reduceIte, reduceCtorEq, hd']
 | succ d ih =>
  intro i hd
  have hib : i < l.length := by omega
  have hd' : decide ((i : Int) < l.length) = true := decide_eq_true (by omega)
  have hge : (l.map encI)[(i : Int).toNat]? = some (encI l[i]) := by simp [hib]
  have hdr : l.drop i = l[i] :: l.drop (i + 1) := List.drop_eq_getElem_cons hib
  have e7 := incP (n := i) (by omega)
  have ih' := ih (i + 1) (by omega)
  rw [hdr, List.all_cons]
  generalize l[i] = x at *
  simp only [encI] at hge
  by_cases h0 : x < 0
  ·have d1 : decide (x < 0) = true := decide_eq_true h0
   have hx : okN x = false := by rw [Bool.eq_false_iff, ne_eq, mc]; omega
   refine .inr ⟨by rw [hx, Bool.false_and], ?_⟩
   rw [ae]
   simp (maxSteps := 2000000) -implicitDefEqProofs (disch := (refine ab ?_; first | assumption | omega | (simp [go_sem] <;> omega) | with_unfolding_all rfl | decide)) only [go_sem, Nat.reduceAdd, Nat.reduceSub, reduceIte, reduceCtorEq, hd', hge, d1]
   exact ⟨_, rfl, rfl⟩
  ·have d1 : decide (x < 0) = false := decide_eq_false h0
   by_cases h1 : x > 1048576
   ·have d2 : decide (x > 1048576) = true := decide_eq_true h1
    have hx : okN x = false := by rw [Bool.eq_false_iff, ne_eq, mc]; omega
    refine .inr ⟨by rw [hx, Bool.false_and], ?_⟩
    rw [ae]
    simp (maxSteps := 2000000) -implicitDefEqProofs (disch := (refine ab ?_; first | assumption | omega | (simp [go_sem] <;> omega) | with_unfolding_all rfl | decide)) only [go_sem, Nat.reduceAdd, Nat.reduceSub, reduceIte, reduceCtorEq, hd', hge, d1, d2]
    exact ⟨_, rfl, rfl⟩
   ·have d2 : decide (x > 1048576) = false := decide_eq_false h1
    have hx : okN x = true := mc.2 (by omega)
    have hstep : den T (.loop bR) (cT (.sl .sh (l.map encI)) (.sl .sh (l.map encI)) (.int .i64 l.length) (.int .i64 i)) h = den T (.loop bR) (cT (.sl .sh (l.map encI)) (.sl .sh (l.map encI)) (.int .i64 l.length) (.int .i64 (i + 1 : Nat))) h := by
     rw [ae]
     simp (maxSteps := 2000000) -implicitDefEqProofs (disch := (refine ab ?_; first | assumption | omega | (simp [go_sem] <;> omega) | with_unfolding_all rfl | decide)) only [go_sem, Nat.reduceAdd, Nat.reduceSub, reduceIte, reduceCtorEq, hd', hge, d1, d2, e7]
     try rfl
    rw [hstep, hx, Bool.true_and]
    exact ih'
theorem vY {l : List Int} {h : AH} (hl : l.length ≤ 1000000000) : run T 74 [.sl .sh (l.map encI)] h = some (.bool (rigP l), h) := by
 have e1 : decide ((l.length : Int) ≤ 6) = decide (l.length ≤ 6) := by congr 1; exact propext (by omega)
 rw [af T_74]
 unfold rigP
 rcases D4 (h := h) hl l.length 0 (by omega) with ⟨h1, h2⟩ | ⟨h1, σ, h2, h3⟩
 ·simp only [show ((0 : Nat) : Int) = 0 from rfl, List.drop_zero] at h1 h2
  rw [h1, Bool.and_true]
  simp (maxSteps := 2000000) -implicitDefEqProofs (disch := (refine ab ?_; first | assumption | omega | (simp [go_sem] <;> omega) | with_unfolding_all rfl | decide)) only [go_sem, Nat.reduceAdd, Nat.reduceSub, reduceIte, reduceCtorEq, cG, List.length_map, h2, e1]
 ·simp only [show ((0 : Nat) : Int) = 0 from rfl, List.drop_zero] at h1 h2
  rw [h1, Bool.and_false]
  simp (maxSteps := 2000000) -implicitDefEqProofs (disch := (refine ab ?_; first | assumption | omega | (simp [go_sem] <;> omega) | with_unfolding_all rfl | decide)) only [go_sem, Nat.reduceAdd, Nat.reduceSub, reduceIte, reduceCtorEq, cG, List.length_map, h2, h3]
def ja : Nat → List Int → List UInt8
 | _, [] => []
 | i, k :: r => (if 0 < i then [46] else []) ++ (Lib.itoa k ++ ja (i + 1) r)
theorem BZ : ∀ (r : List Int) (i : Nat), ja (i + 1) r = if r = [] then [] else 46 :: cU (r.map Lib.itoa)
 | [], i => by simp [ja]
 | [k], i => by simp [ja, cU]
 | k :: k2 :: r, i => by
  have ih := BZ (k2 :: r) (i + 1)
  rw [ja, ih, if_pos (by omega), if_neg (by simp), if_neg (by simp)]
  simp only [List.map_cons, cU, List.singleton_append]
theorem ja_0 (l : List Int) : ja 0 l = dotT l := by
 unfold dotT
 rw [← iZ]
 cases l with
 | nil => rfl
 | cons k r =>
  rw [ja, BZ, if_neg (by omega), List.nil_append]
  cases r with
  | nil => simp [cU]
  | cons k2 r => rw [if_neg (by simp)]; simp only [List.map_cons, cU]
def i64L (l : List Int) : Prop := ∀ k ∈ l, -9223372036854775808 ≤ k ∧ k ≤ 9223372036854775807
theorem D5 {l : List Int} {h : AH} (hl : l.length ≤ 1000) (hi : i64L l) : ∀ (d i : Nat) (a : List UInt8), d + i = l.length → a.length ≤ 22 * i →
  den T (.loop gA) (kC (.str ⟨a.toArray⟩) (.sl .sh (l.map encI)) (.int .i64 l.length) (.int .i64 i)) h = some (.exit 0, kD (.str ⟨(a ++ ja i (l.drop i)).toArray⟩), h) := by
 intro d
 induction d with
 | zero =>
  intro i a hd ha
  have hd' : decide ((i : Int) < l.length) = false := decide_eq_false (by omega)
  rw [List.drop_eq_nil_of_le (by omega), ja, List.append_nil]
  rw [ae]
  simp -implicitDefEqProofs (disch := (refine ab ?_; first | assumption | omega | (simp [go_sem] <;> omega) | with_unfolding_all rfl | decide)) only [go_sem, Nat.reduceAdd, Nat.reduceSub, reduceIte, reduceCtorEq, hd']
 | succ d ih =>
  intro i a hd ha
  have hib : i < l.length := by omega
  have hd' : decide ((i : Int) < l.length) = true := decide_eq_true (by omega)
  have hge : (l.map encI)[(i : Int).toNat]? = some (encI l[i]) := by simp [hib]
  have hdr : l.drop i = l[i] :: l.drop (i + 1) := List.drop_eq_getElem_cons hib
  have e7 := incP (n := i) (by omega)
  obtain ⟨r1, r2⟩ := hi l[i] (List.getElem_mem hib)
  rw [hdr, ja]
  generalize l[i] = x at *
  have hn := D2 (n := x) (h := []) r1 r2
  have hil := na r1 r2
  simp only [encI] at hge
  by_cases h0 : 0 < i
  ·have d1 : decide ((i : Int) > 0) = true := decide_eq_true (by omega)
   have ih' := ih (i + 1) (a ++ [46] ++ Lib.itoa x) (by omega) (by simp only [List.length_append, List.length_cons, List.length_nil]; omega)
   rw [if_pos h0]
   rw [show a ++ ([46] ++ (Lib.itoa x ++ ja (i + 1) (List.drop (i + 1) l))) = a ++ [46] ++ Lib.itoa x ++ ja (i + 1) (List.drop (i + 1) l) by simp only [List.append_assoc]]
   have e46 : (⟨#[46]⟩ : ByteArray) = ⟨([46] : List UInt8).toArray⟩ := rfl
   rw [ae]
   simp (maxSteps := 2000000) -implicitDefEqProofs (disch := (refine ab ?_; first | assumption | omega | (simp [go_sem] <;> omega) | with_unfolding_all rfl | decide)) only [go_sem, Nat.reduceAdd, Nat.reduceSub, reduceIte, reduceCtorEq, hd', hge, d1, hn, e7, e46]
   simp only [List.append_assoc, List.cons_append, List.nil_append] at ih'
   exact ih'
  ·have d1 : decide ((i : Int) > 0) = false := decide_eq_false (by omega)
   have ih' := ih (i + 1) (a ++ Lib.itoa x) (by omega) (by simp only [List.length_append]; omega)
   rw [if_neg h0, List.nil_append, ← List.append_assoc]
   rw [ae]
   simp (maxSteps := 2000000) -implicitDefEqProofs (disch := (refine ab ?_; first | assumption | omega | (simp [go_sem] <;> omega) | with_unfolding_all rfl | decide)) only [go_sem, Nat.reduceAdd, Nat.reduceSub, reduceIte, reduceCtorEq, hd', hge, d1, hn, e7]
   rw [List.append_assoc] at ih'
   exact ih'
theorem HY {l : List Int} {h : AH} (hl : l.length ≤ 1000) (hi : i64L l) : run T 75 [.sl .sh (l.map encI)] h = some (.str ⟨(dotT l).toArray⟩, h) := by
 have h1 := D5 (h := h) hl hi l.length 0 [] (by omega) (by simp)
 simp only [show ((0 : Nat) : Int) = 0 from rfl, List.drop_zero, List.nil_append, ja_0] at h1
 rw [af T_75]
 simp (maxSteps := 2000000) -implicitDefEqProofs (disch := (refine ab ?_; first | assumption | omega | (simp [go_sem] <;> omega) | with_unfolding_all rfl | decide)) only [go_sem, Nat.reduceAdd, Nat.reduceSub, reduceIte, reduceCtorEq, dQ, List.length_map, h1]
theorem D6 {s : List UInt8} {h : AH} (hs : s.length ≤ 1000000) : ∀ (k i n d : Nat) (p : List Int), k + i = s.length → n < 10 ^ d → d ≤ 7 → p.length ≤ i →
  (∃ q, refQ (s.drop i) n d p = some q ∧ den T (.loop aV) (bz (.str ⟨s.toArray⟩) (ow (p.map encI)) (.int .i64 n) (.int .i64 d) (.int .i64 i)) h = some (.exit 0, j3 (.str ⟨s.toArray⟩) (ow (q.map encI)), h)) ∨
  (refQ (s.drop i) n d p = none ∧ ∃ σ, den T (.loop aV) (bz (.str ⟨s.toArray⟩) (ow (p.map encI)) (.int .i64 n) (.int .i64 d) (.int .i64 i)) h = some (.ret, σ, h) ∧ σ.getD 2 aa = ow [] ∧ σ.getD 3 aa = .bool false) := by
 intro k
 induction k with
 | zero =>
  intro i n d p hk hn hd hp
  have d1 : decide ((i : Int) ≤ s.length) = true := decide_eq_true (by omega)
  have d2 : ((i : Int) == (s.length : Int)) = true := by simp; omega
  have d3 : decide (((i + 1 : Nat) : Int) ≤ s.length) = false := decide_eq_false (by omega)
  have e7 := incP (n := i) (by omega)
  have e1 : (p ++ [(n : Int)]).map encI = p.map encI ++ [[.int .i64 (n : Int)]] := by simp [encI]
  refine .inl ⟨p ++ [(n : Int)], by rw [List.drop_eq_nil_of_le (by omega)]; rfl, ?_⟩
  rw [e1]
  rw [ae]
  simp (maxSteps := 2000000) -implicitDefEqProofs (disch := (refine ab ?_; first | assumption | omega | (simp [go_sem] <;> omega) | with_unfolding_all rfl | decide)) only [go_sem, Nat.reduceAdd, Nat.reduceSub, reduceIte, reduceCtorEq, d1, d2, e7]
  rw [ae]
  simp (maxSteps := 2000000) -implicitDefEqProofs (disch := (refine ab ?_; first | assumption | omega | (simp [go_sem] <;> omega) | with_unfolding_all rfl | decide)) only [go_sem, Nat.reduceAdd, Nat.reduceSub, reduceIte, reduceCtorEq, d3]
 | succ k ih =>
  intro i n d p hk hn hd hp
  have his : i < s.length := by omega
  have d1 : decide ((i : Int) ≤ s.length) = true := decide_eq_true (by omega)
  have d2 : ((i : Int) == (s.length : Int)) = false := by simp; omega
  have e7 := incP (n := i) (by omega)
  have hge : s[(i : Int).toNat]? = some s[i] := by simp [his]
  have hdr : s.drop i = s[i] :: s.drop (i + 1) := List.drop_eq_getElem_cons his
  rw [hdr, refQ]
  generalize s[i] = c at *
  have hcl := c.toNat_lt
  by_cases h46 : c = 46
  ·have d3 : ((c.toNat : Int) == 46) = true := by rw [h46]; rfl
   have ih' := ih (i + 1) 0 0 (p ++ [(n : Int)]) (by omega) (by simp) (by omega) (by simp; omega)
   have e1 : (p ++ [(n : Int)]).map encI = p.map encI ++ [[.int .i64 (n : Int)]] := by simp [encI]
   rw [if_pos h46]
   rw [e1] at ih'
   have hstep : den T (.loop aV) (bz (.str ⟨s.toArray⟩) (ow (p.map encI)) (.int .i64 n) (.int .i64 d) (.int .i64 i)) h = den T (.loop aV) (bz (.str ⟨s.toArray⟩) (ow (p.map encI ++ [[.int .i64 (n : Int)]])) (.int .i64 ((0 : Nat) : Int)) (.int .i64 ((0 : Nat) : Int)) (.int .i64 (i + 1 : Nat))) h := by
    rw [ae]
    simp (maxSteps := 2000000) -implicitDefEqProofs (disch := (refine ab ?_; first | assumption | omega | (simp [go_sem] <;> omega) | with_unfolding_all rfl | decide)) only [go_sem, Nat.reduceAdd, Nat.reduceSub, reduceIte, reduceCtorEq, d1, d2, hge, d3, e7]
    try rfl
   rw [hstep]
   exact ih'
  ·have d3 : ((c.toNat : Int) == 46) = false := by
    rw [beq_eq_false_iff_ne]; intro z; exact h46 (UInt8.toNat_inj.1 (by simpa using (show c.toNat = 46 by omega)))
   have e5 := incP (n := d) (by omega)
   rw [if_neg h46]
   by_cases h48 : c.toNat < 48
   ·have d4 : decide ((c.toNat : Int) < 48) = true := decide_eq_true (by omega)
    rw [if_pos (.inl h48)]
    refine .inr ⟨rfl, ?_⟩
    rw [ae]
    simp (maxSteps := 2000000) -implicitDefEqProofs (disch := (refine ab ?_; first | assumption | omega | (simp [go_sem] <;> omega) | with_unfolding_all rfl | decide)) only [go_sem, Nat.reduceAdd, Nat.reduceSub, reduceIte, reduceCtorEq, d1, d2, hge, d3, e5, d4]
    exact ⟨_, rfl, rfl, rfl⟩
   ·have d4 : decide ((c.toNat : Int) < 48) = false := decide_eq_false (by omega)
    by_cases h57 : 57 < c.toNat
    ·have d5 : decide ((c.toNat : Int) > 57) = true := decide_eq_true (by omega)
     rw [if_pos (.inr (.inl h57))]
     refine .inr ⟨rfl, ?_⟩
     rw [ae]
     simp (maxSteps := 2000000) -implicitDefEqProofs (disch := (refine ab ?_; first | assumption | omega | (simp [go_sem] <;> omega) | with_unfolding_all rfl | decide)) only [go_sem, Nat.reduceAdd, Nat.reduceSub, reduceIte, reduceCtorEq, d1, d2, hge, d3, e5, d4, d5]
     exact ⟨_, rfl, rfl, rfl⟩
    ·have d5 : decide ((c.toNat : Int) > 57) = false := decide_eq_false (by omega)
     by_cases h7 : 7 < d + 1
     ·have d6 : decide (((d + 1 : Nat) : Int) > 7) = true := decide_eq_true (by omega)
      rw [if_pos (.inr (.inr h7))]
      refine .inr ⟨rfl, ?_⟩
      rw [ae]
      simp (maxSteps := 2000000) -implicitDefEqProofs (disch := (refine ab ?_; first | assumption | omega | (simp [go_sem] <;> omega) | with_unfolding_all rfl | decide)) only [go_sem, Nat.reduceAdd, Nat.reduceSub, reduceIte, reduceCtorEq, d1, d2, hge, d3, e5, d4, d5, d6]
      exact ⟨_, rfl, rfl, rfl⟩
     ·have d6 : decide (((d + 1 : Nat) : Int) > 7) = false := decide_eq_false (by omega)
      rw [if_neg (by omega)]
      have hp7 : 10 ^ d ≤ 10 ^ 6 := Nat.pow_le_pow_right (by omega) (by omega)
      have ih' := ih (i + 1) (10 * n + (c.toNat - 48)) (d + 1) p (by omega) (by rw [Nat.pow_succ]; omega) (by omega) (by omega)
      have f1 : IntKind.i64.wrap (10 * (n : Int)) = ((10 * n : Nat) : Int) := by rw [w64 (by omega) (by omega)]; omega
      have f2 : IntKind.u8.wrap ((c.toNat : Int) - 48) = ((c.toNat - 48 : Nat) : Int) := by rw [w8]; omega
      have f3 : IntKind.i64.wrap ((c.toNat - 48 : Nat) : Int) = ((c.toNat - 48 : Nat) : Int) := w64 (by omega) (by omega)
      have f4 : IntKind.i64.wrap (((10 * n : Nat) : Int) + ((c.toNat - 48 : Nat) : Int)) = ((10 * n + (c.toNat - 48) : Nat) : Int) := by rw [w64 (by omega) (by omega)]; omega
      have hstep : den T (.loop aV) (bz (.str ⟨s.toArray⟩) (ow (p.map encI)) (.int .i64 n) (.int .i64 d) (.int .i64 i)) h = den T (.loop aV) (bz (.str ⟨s.toArray⟩) (ow (p.map encI)) (.int .i64 ((10 * n + (c.toNat - 48) : Nat) : Int)) (.int .i64 ((d + 1 : Nat) : Int)) (.int .i64 (i + 1 : Nat))) h := by
       rw [ae]
       simp (maxSteps := 2000000) -implicitDefEqProofs (disch := (refine ab ?_; first | assumption | omega | (simp [go_sem] <;> omega) | with_unfolding_all rfl | decide)) only [go_sem, Nat.reduceAdd, Nat.reduceSub, reduceIte, reduceCtorEq, d1, d2, hge, d3, e5, d4, d5, d6, f1, f2, f3, f4, e7]
       try rfl
      rw [hstep]
      exact ih'
theorem sV : ∀ (l : List UInt8) (n d : Nat) (p q : List Int), refQ l n d p = some q → q.length ≤ p.length + l.length + 1
 | [], n, d, p, q, h => by simp only [refQ, Option.some.injEq] at h; subst h; simp
 | c :: l, n, d, p, q, h => by
  simp only [refQ] at h
  split at h
  ·have := sV l _ _ _ _ h
   simp only [List.length_append, List.length_cons, List.length_nil] at this ⊢; omega
  ·split at h
   ·cases h
   ·have := sV l _ _ _ _ h
    simp only [List.length_cons]; omega
theorem D7 {l : List Int} (h : rigP l = true) : i64L l := fun k hk => by have := (fG h).2 k hk; omega
theorem HZ {s : List UInt8} {h : AH} (hs : s.length ≤ 1000000) : run T 90 [.str ⟨s.toArray⟩] h = some (.tup [ow ((prsP s).1.map encI), .bool (prsP s).2], h) := by
 rw [← HV]
 rw [af T_90]
 unfold refP
 by_cases h0 : s = []
 ·have e1 : (s == []) = true := by rw [h0]; rfl
  rw [if_pos h0]
  simp (maxSteps := 2000000) -implicitDefEqProofs (disch := (refine ab ?_; first | assumption | omega | (simp [go_sem] <;> omega) | with_unfolding_all rfl | decide)) only [go_sem, Nat.reduceAdd, Nat.reduceSub, reduceIte, reduceCtorEq, aS, e1, List.map_nil]
 ·have e1 : (s == []) = false := by simpa using h0
  rw [if_neg h0]
  rcases D6 (h := h) hs s.length 0 0 0 [] (by omega) (by simp) (by omega) (by simp) with ⟨q, h1, h2⟩ | ⟨h1, σ, h2, h3, h4⟩
  ·simp only [show ((0 : Nat) : Int) = 0 from rfl, List.drop_zero, List.map_nil] at h1 h2
   rw [h1]
   simp only
   have hql := sV _ _ _ _ _ h1
   simp only [List.length_nil] at hql
   have h5 := fun h => vY (l := q) (h := h) (by omega)
   cases hr : rigP q with
   | false =>
    rw [hr] at h5
    rw [if_neg (by simp)]
    simp (maxSteps := 2000000) -implicitDefEqProofs (disch := (refine ab ?_; first | assumption | omega | (simp [go_sem] <;> omega) | with_unfolding_all rfl | decide)) only [go_sem, Nat.reduceAdd, Nat.reduceSub, reduceIte, reduceCtorEq, aS, e1, h2, h5, List.map_nil]
   | true =>
    rw [hr] at h5
    have h6 := fun h => HY (l := q) (h := h) (by have := (fG hr).1; omega) (D7 hr)
    by_cases hd : dotT q = s
    ·have e2 : (dotT q == s) = true := by simp [hd]
     rw [if_pos ⟨rfl, hd⟩]
     simp (maxSteps := 2000000) -implicitDefEqProofs (disch := (refine ab ?_; first | assumption | omega | (simp [go_sem] <;> omega) | with_unfolding_all rfl | decide)) only [go_sem, Nat.reduceAdd, Nat.reduceSub, reduceIte, reduceCtorEq, aS, e1, h2, h5, h6, e2, Bool.not_true]
    ·have e2 : (dotT q == s) = false := by simp [hd]
     rw [if_neg (by simp [hd])]
     simp (maxSteps := 2000000) -implicitDefEqProofs (disch := (refine ab ?_; first | assumption | omega | (simp [go_sem] <;> omega) | with_unfolding_all rfl | decide)) only [go_sem, Nat.reduceAdd, Nat.reduceSub, reduceIte, reduceCtorEq, aS, e1, h2, h5, h6, e2, Bool.not_false, List.map_nil]
  ·simp only [show ((0 : Nat) : Int) = 0 from rfl, List.drop_zero, List.map_nil] at h1 h2
   rw [h1]
   simp (maxSteps := 2000000) -implicitDefEqProofs (disch := (refine ab ?_; first | assumption | omega | (simp [go_sem] <;> omega) | with_unfolding_all rfl | decide)) only [go_sem, Nat.reduceAdd, Nat.reduceSub, reduceIte, reduceCtorEq, aS, e1, h2, h3, h4, List.map_nil]
end Go.Proofs.YtibchilpaaiecaaGreatDoor.L
