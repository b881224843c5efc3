/- Turned bits of what is sealed are told: the plain law (one bit's step is linear, one to one, and from a single bit it comes to none of the 32 within 4000 steps). -/
import Derived.Test.YtbmkioeeolbdnaaL8
set_option linter.all false
set_option maxRecDepth 100000
namespace Go.Proofs.Ytbmkioeeolbdnaa.L
open Go.Proofs.Ytbmkioeeolbdnaa.M Go.Proofs.Ytbmkioeeolbdnaa.F Go.Proofs

/-! ### one bit's step is linear and one to one -/
theorem low01 (r : BitVec 32) : r &&& 1#32 = 0#32 ∨ r &&& 1#32 = 1#32 := by
  rcases Nat.mod_two_eq_zero_or_one r.toNat with h | h
  · left; apply BitVec.eq_of_toNat_eq; rw [BitVec.toNat_and, show (1#32).toNat = 1 from rfl, Nat.and_one_is_mod, h]; try rfl
  · right; apply BitVec.eq_of_toNat_eq; rw [BitVec.toNat_and, show (1#32).toNat = 1 from rfl, Nat.and_one_is_mod, h]; try rfl
theorem and_x (a b c : BitVec 32) : (a ^^^ b) &&& c = (a &&& c) ^^^ (b &&& c) := by
  apply BitVec.eq_of_getLsbD_eq
  intro i hi
  simp only [BitVec.getLsbD_and, BitVec.getLsbD_xor]
  cases a.getLsbD i <;> cases b.getLsbD i <;> cases c.getLsbD i <;> rfl
theorem tb_x (a b : BitVec 32) : tb (a ^^^ b) = tb a ^^^ tb b := by
  unfold tb
  rw [BitVec.ushiftRight_xor_distrib, and_x]
  rcases low01 a with ha | ha <;> rcases low01 b with hb | hb <;> rw [ha, hb] <;> simp
  · rw [BitVec.xor_assoc]
  · rw [BitVec.xor_assoc, BitVec.xor_assoc, BitVec.xor_comm (b >>> 1)]
  · rw [BitVec.xor_assoc, ← BitVec.xor_assoc 3988292384#32, BitVec.xor_comm 3988292384#32 (b >>> 1), BitVec.xor_assoc, BitVec.xor_self, BitVec.xor_zero]
theorem tbs_x : ∀ (n : Nat) (a b : BitVec 32), tbs n (a ^^^ b) = tbs n a ^^^ tbs n b
  | 0, a, b => rfl
  | n + 1, a, b => by rw [tbs, tbs, tbs, tb_x, tbs_x n]
theorem tbs_add : ∀ (m n : Nat) (r : BitVec 32), tbs (m + n) r = tbs n (tbs m r)
  | 0, n, r => by rw [Nat.zero_add]; rfl
  | m + 1, n, r => by rw [show m + 1 + n = (m + n) + 1 by omega, tbs, tbs, tbs_add m n]
theorem tb_0 {z : BitVec 32} (h : tb z = 0#32) : z = 0#32 := by
  unfold tb at h
  have h2 : z.toNat / 2 = (3988292384#32 * (z &&& 1#32)).toNat := by
    have := BitVec.xor_eq_zero_iff.1 h
    have := congrArg BitVec.toNat this
    rwa [BitVec.toNat_ushiftRight, Nat.shiftRight_eq_div_pow, Nat.pow_one] at this
  have hz := z.isLt
  rcases low01 z with hl | hl
  · rw [hl] at h2
    have hm : z.toNat % 2 = 0 := by
      have := congrArg BitVec.toNat hl
      rwa [BitVec.toNat_and, show (1#32).toNat = 1 from rfl, Nat.and_one_is_mod] at this
    simp at h2
    apply BitVec.eq_of_toNat_eq
    simp
    omega
  · rw [hl] at h2
    have : (3988292384#32 * 1#32).toNat = 3988292384 := rfl
    omega
theorem tbs_0 : ∀ (n : Nat) {z : BitVec 32}, tbs n z = 0#32 → z = 0#32
  | 0, z, h => h
  | n + 1, z, h => tb_0 (tbs_0 n h)
theorem tbs_z : ∀ n : Nat, tbs n 0#32 = 0#32
  | 0 => rfl
  | n + 1 => by rw [tbs, show tb 0#32 = 0#32 from rfl, tbs_z n]
theorem tbs_inj {n : Nat} {a b : BitVec 32} (h : tbs n a = tbs n b) : a = b := by
  have : tbs n (a ^^^ b) = 0#32 := by rw [tbs_x, h, BitVec.xor_self]
  exact BitVec.xor_eq_zero_iff.1 (tbs_0 n this)
/-! ### no single bit comes of a single bit -/
def stN (r : Nat) : Nat := Nat.xor (Nat.shiftRight r 1) (Nat.mul 3988292384 (Nat.land r 1))
def chk : Nat → Nat → Bool
  | 0, _ => true
  | k + 1, r => Nat.blt 0 (Nat.land (stN r) (Nat.sub (stN r) 1)) && chk k (stN r)
theorem stN_tb (r : BitVec 32) : (tb r).toNat = stN r.toNat := by
  unfold tb stN
  rw [BitVec.toNat_xor, BitVec.toNat_ushiftRight]
  show _ = (r.toNat >>> 1) ^^^ (3988292384 * (r.toNat &&& 1))
  congr 1
  rw [BitVec.toNat_mul, BitVec.toNat_and, show (1#32).toNat = 1 from rfl, show (3988292384#32).toNat = 3988292384 from rfl, Nat.and_one_is_mod]
  rcases Nat.mod_two_eq_zero_or_one r.toNat with h | h <;> rw [h]
theorem chk_all : ∀ (k : Nat) (r : BitVec 32), chk k r.toNat = true → ∀ m, 1 ≤ m → m ≤ k → (tbs m r).toNat &&& ((tbs m r).toNat - 1) ≠ 0
  | 0, r, h, m, h1, h2 => by omega
  | k + 1, r, h, m, h1, h2 => by
    simp only [chk, Bool.and_eq_true] at h
    rw [← stN_tb] at h
    by_cases hm : m = 1
    · subst hm
      have := Eq.mp Nat.blt_eq h.1
      show (tb r).toNat &&& ((tb r).toNat - 1) ≠ 0
      exact Nat.pos_iff_ne_zero.1 this
    · obtain ⟨m', rfl⟩ : ∃ m', m = m' + 1 := ⟨m - 1, by omega⟩
      exact chk_all k (tb r) h.2 m' (by omega) (by omega)
theorem chk_4000 : chk 4000 1 = true := by decide +kernel
theorem far {m : Nat} (h1 : 1 ≤ m) (h2 : m ≤ 4000) : (tbs m 1#32).toNat &&& ((tbs m 1#32).toNat - 1) ≠ 0 := chk_all 4000 1#32 chk_4000 m h1 h2
theorem pow_and : ∀ t, t < 32 → 2 ^ t &&& (2 ^ t - 1) = 0 := by decide
theorem pow_tn {t : Nat} (h : t < 32) : (BitVec.ofNat 32 (2 ^ t)).toNat = 2 ^ t := by
  rw [BitVec.toNat_ofNat, Nat.mod_eq_of_lt (Nat.pow_lt_pow_right (by omega) h)]
theorem far_pow {m t : Nat} (h1 : 1 ≤ m) (h2 : m ≤ 4000) (ht : t < 32) : tbs m 1#32 ≠ BitVec.ofNat 32 (2 ^ t) := by
  intro h
  have := far h1 h2
  rw [h, pow_tn ht] at this
  exact this (pow_and t ht)
theorem far_0 {m : Nat} : tbs m 1#32 ≠ 0#32 := fun h => by have := tbs_0 m h; exact absurd this (by decide)
theorem tb_pow {q : Nat} (h : q < 31) : tb (BitVec.ofNat 32 (2 ^ (q + 1))) = BitVec.ofNat 32 (2 ^ q) := by
  apply BitVec.eq_of_toNat_eq
  rw [stN_tb, pow_tn (by omega), pow_tn (by omega)]
  show (2 ^ (q + 1) >>> 1) ^^^ (3988292384 * (2 ^ (q + 1) &&& 1)) = 2 ^ q
  rw [Nat.and_one_is_mod, Nat.pow_succ, Nat.shiftRight_eq_div_pow, Nat.pow_one, Nat.mul_div_cancel _ (by omega), Nat.mul_mod_left, Nat.mul_zero, Nat.xor_zero]
theorem tbs_pow : ∀ q, q < 32 → tbs q (BitVec.ofNat 32 (2 ^ q)) = 1#32
  | 0, _ => rfl
  | q + 1, h => by rw [tbs, tb_pow (by omega), tbs_pow q (by omega)]
/-! ### what a turned bit does to the sum -/
def Dt (n i : Nat) : BitVec 32 := if i < 8 * n then tbs (8 * n - i) 1#32 else BitVec.ofNat 32 (2 ^ (8 * (3 - (i / 8 - n)) + i % 8))
theorem Dt_0 {n i : Nat} (hn : n ≤ 500) (hi : i < 8 * (n + 4)) : Dt n i ≠ 0#32 := by
  unfold Dt
  split
  · exact far_0
  · intro h
    have ht : 8 * (3 - (i / 8 - n)) + i % 8 < 32 := by omega
    have := congrArg BitVec.toNat h
    rw [pow_tn ht] at this
    have := Nat.two_pow_pos (8 * (3 - (i / 8 - n)) + i % 8)
    simp at *
theorem Dt_lt {n i j : Nat} (hn : n ≤ 500) (hij : i < j) (hj : j < 8 * n) : tbs (8 * n - i) 1#32 ≠ tbs (8 * n - j) 1#32 := by
  intro h
  rw [show 8 * n - i = (j - i) + (8 * n - j) by omega, tbs_add] at h
  have := tbs_inj h
  exact far_pow (m := j - i) (t := 0) (by omega) (by omega) (by omega) this
theorem Dt_inj {n i j : Nat} (hn : n ≤ 500) (hi : i < 8 * (n + 4)) (hj : j < 8 * (n + 4)) (h : Dt n i = Dt n j) : i = j := by
  unfold Dt at h
  by_cases h1 : i < 8 * n
  · rw [if_pos h1] at h
    by_cases h2 : j < 8 * n
    · rw [if_pos h2] at h
      by_cases e : i = j
      · exact e
      · by_cases hlt : i < j
        · exact absurd h (Dt_lt hn hlt h2)
        · exact absurd h.symm (Dt_lt hn (by omega) h1)
    · rw [if_neg h2] at h
      exact absurd h (far_pow (by omega) (by omega) (by omega))
  · rw [if_neg h1] at h
    by_cases h2 : j < 8 * n
    · rw [if_pos h2] at h
      exact absurd h.symm (far_pow (by omega) (by omega) (by omega))
    · rw [if_neg h2] at h
      have := congrArg BitVec.toNat h
      rw [pow_tn (by omega), pow_tn (by omega)] at this
      have := (Nat.pow_right_inj (a := 2) (by omega)).1 this
      omega
/-! ### turned bits -/
def fb (c : UInt8) (q : Nat) : UInt8 := UInt8.ofNat (c.toNat ^^^ 2 ^ q)
theorem fb_toNat {c : UInt8} {q : Nat} (h : q < 8) : (fb c q).toNat = c.toNat ^^^ 2 ^ q := by
  unfold fb
  rw [UInt8.toNat_ofNat']
  exact Nat.mod_eq_of_lt (Nat.xor_lt_two_pow (n := 8) c.toNat_lt (Nat.pow_lt_pow_right (by omega) h))
theorem fb_fb {c : UInt8} {q : Nat} (h : q < 8) : fb (fb c q) q = c := by
  apply UInt8.toNat_inj.1
  rw [fb_toNat h, fb_toNat h, Nat.xor_assoc, Nat.xor_self, Nat.xor_zero]
theorem ofN_x (a b : Nat) : BitVec.ofNat 32 (a ^^^ b) = BitVec.ofNat 32 a ^^^ BitVec.ofNat 32 b := by
  apply BitVec.eq_of_toNat_eq
  rw [BitVec.toNat_xor, BitVec.toNat_ofNat, BitVec.toNat_ofNat, BitVec.toNat_ofNat]
  exact Nat.xor_mod_two_pow
theorem fold_x : ∀ (l : List UInt8) (r d : BitVec 32), l.foldl ub (r ^^^ d) = l.foldl ub r ^^^ tbs (8 * l.length) d
  | [], r, d => rfl
  | c :: l, r, d => by
    have h : ub (r ^^^ d) c = ub r c ^^^ tbs 8 d := by
      unfold ub
      rw [BitVec.xor_assoc, BitVec.xor_comm d, ← BitVec.xor_assoc, tbs_x]
    rw [List.foldl_cons, List.foldl_cons, h, fold_x l, ← tbs_add, List.length_cons, show 8 + 8 * l.length = 8 * (l.length + 1) by omega]
theorem fold_fb : ∀ (l : List UInt8) (p q : Nat) (r : BitVec 32) (hp : p < l.length), q < 8 → (l.set p (fb l[p] q)).foldl ub r = l.foldl ub r ^^^ tbs (8 * (l.length - p) - q) 1#32
  | [], p, q, r, hp, hq => absurd hp (by simp)
  | c :: l, 0, q, r, hp, hq => by
    have h : ub r (fb c q) = ub r c ^^^ tbs (8 - q) 1#32 := by
      unfold ub
      rw [fb_toNat hq, ofN_x, ← BitVec.xor_assoc, tbs_x]
      congr 1
      rw [show 8 = q + (8 - q) by omega, tbs_add, tbs_pow q (by omega)]
      congr 1
      omega
    rw [List.set_cons_zero, List.foldl_cons, List.foldl_cons]
    show l.foldl ub (ub r (fb c q)) = _
    rw [h, fold_x l, ← tbs_add, List.length_cons, show 8 - q + 8 * l.length = 8 * (l.length + 1 - 0) - q by omega]
  | c :: l, p + 1, q, r, hp, hq => by
    rw [List.set_cons_succ, List.foldl_cons, List.foldl_cons]
    have := fold_fb l p q (ub r c) (by simpa using hp) hq
    rw [List.length_cons, show l.length + 1 - (p + 1) = l.length - p by omega]
    exact this
theorem not_x (a d : BitVec 32) : ~~~(a ^^^ d) = ~~~a ^^^ d := by
  rw [← BitVec.xor_allOnes, ← BitVec.xor_allOnes (x := a), BitVec.xor_assoc, BitVec.xor_assoc, BitVec.xor_comm d]
theorem crc_fb {l : List UInt8} {p q : Nat} (hp : p < l.length) (hq : q < 8) : crc (l.set p (fb l[p] q)) = crc l ^^^ tbs (8 * (l.length - p) - q) 1#32 := by
  unfold crc
  rw [fold_fb l p q _ hp hq, not_x]
theorem byt_x (a b m : Nat) : (a ^^^ b) / 2 ^ m % 256 = (a / 2 ^ m % 256) ^^^ (b / 2 ^ m % 256) := by
  rw [← Nat.shiftRight_eq_div_pow, ← Nat.shiftRight_eq_div_pow, ← Nat.shiftRight_eq_div_pow, Nat.shiftRight_xor_distrib]
  exact Nat.xor_mod_two_pow (n := 8)
theorem pw : ∀ q, q < 8 → ∀ j, j < 4 → ∀ j', j' < 4 → 2 ^ (8 * j + q) / 2 ^ (8 * j') % 256 = if j = j' then 2 ^ q else 0 := by decide
def bt (v : BitVec 32) (j : Nat) : UInt8 := UInt8.ofNat (v.toNat / 2 ^ (8 * j) % 256)
theorem be4_bt (v : BitVec 32) : be4 v = [bt v 3, bt v 2, bt v 1, bt v 0] := by simp [be4, bt]
theorem bt_x {v : BitVec 32} {q j j' : Nat} (hq : q < 8) (hj : j < 4) (hj' : j' < 4) : bt (v ^^^ BitVec.ofNat 32 (2 ^ (8 * j + q))) j' = if j = j' then fb (bt v j') q else bt v j' := by
  have h1 : (bt v j').toNat = v.toNat / 2 ^ (8 * j') % 256 := by unfold bt; rw [UInt8.toNat_ofNat']; omega
  unfold bt
  rw [BitVec.toNat_xor, pow_tn (by omega), byt_x, pw q hq j hj j' hj']
  split
  · unfold fb
    rw [show (UInt8.ofNat (v.toNat / 2 ^ (8 * j') % 256)) = bt v j' from rfl, h1]
  · rw [Nat.xor_zero]
theorem be4_fb {v : BitVec 32} {k q : Nat} (hk : k < (be4 v).length) (hq : q < 8) : (be4 v).set k (fb (be4 v)[k] q) = be4 (v ^^^ BitVec.ofNat 32 (2 ^ (8 * (3 - k) + q))) := by
  have hk4 : k < 4 := by simpa [be4] using hk
  rw [be4_bt (v ^^^ _), bt_x hq (by omega) (by omega), bt_x hq (by omega) (by omega), bt_x hq (by omega) (by omega), bt_x hq (by omega) (by omega)]
  have e : ∀ x : UInt8, (be4 v).set k x = [bt v 3, bt v 2, bt v 1, bt v 0].set k x := fun x => by rw [be4_bt]
  rw [e]
  clear e
  match k, hk4, hk with
  | 0, _, _ => rfl
  | 1, _, _ => rfl
  | 2, _, _ => rfl
  | 3, _, h3 =>
    have h0 : ((be4 v)[3]'h3) = bt v 0 := by simp [bt, be4]
    show [bt v 3, bt v 2, bt v 1, fb ((be4 v)[3]'h3) q] = _
    rw [h0]
    rfl
theorem be4_inj {v w : BitVec 32} (h : be4 v = be4 w) : v = w := by
  rw [be4_bt, be4_bt] at h
  simp only [List.cons.injEq, and_true] at h
  obtain ⟨h3, h2, h1, h0⟩ := h
  have t : ∀ {j}, bt v j = bt w j → v.toNat / 2 ^ (8 * j) % 256 = w.toNat / 2 ^ (8 * j) % 256 := fun {j} h => by
    have := congrArg UInt8.toNat h
    unfold bt at this
    rw [UInt8.toNat_ofNat', UInt8.toNat_ofNat'] at this
    omega
  have a3 := t h3; have a2 := t h2; have a1 := t h1; have a0 := t h0
  have hv := v.isLt; have hw := w.isLt
  apply BitVec.eq_of_toNat_eq
  simp at a3 a2 a1 a0
  omega
/-- A bit of a sealed text is turned. -/
def flipB (s : List UInt8) (i : Nat) : List UInt8 := s.set (i / 8) (fb (s.getD (i / 8) 0) (i % 8))
theorem flipB_len (s : List UInt8) (i : Nat) : (flipB s i).length = s.length := by simp [flipB]
theorem flipB2 {s : List UInt8} {i : Nat} (h : i < 8 * s.length) : flipB (flipB s i) i = s := by
  have hi : i / 8 < s.length := by omega
  unfold flipB
  have e1 : (s.set (i / 8) (fb (s.getD (i / 8) 0) (i % 8))).getD (i / 8) 0 = fb (s.getD (i / 8) 0) (i % 8) := by simp [List.getD, hi]
  rw [e1, fb_fb (Nat.mod_lt _ (by omega)), List.set_set]
  have : s.getD (i / 8) 0 = s[i / 8] := by simp [List.getD, hi]
  rw [this, List.set_getElem_self]
/-- A text and a sum: how far the sum is off. -/
def Off (n : Nat) (X : BitVec 32) (s : List UInt8) : Prop := ∃ b v, b.length = n ∧ s = b ++ be4 v ∧ crc b ^^^ v = X
theorem off_flip {n i : Nat} {X : BitVec 32} {s : List UInt8} (h : Off n X s) (hi : i < 8 * (n + 4)) : Off n (X ^^^ Dt n i) (flipB s i) := by
  obtain ⟨b, v, hb, rfl, hX⟩ := h
  have hq : i % 8 < 8 := Nat.mod_lt _ (by omega)
  unfold flipB Dt
  by_cases h1 : i < 8 * n
  · have hp : i / 8 < b.length := by omega
    have e1 : (b ++ be4 v).getD (i / 8) 0 = b[i / 8] := by simp [List.getD, List.getElem?_append_left hp, hp]
    rw [e1, List.set_append_left _ _ hp, if_pos h1]
    refine ⟨_, v, by rw [List.length_set]; exact hb, rfl, ?_⟩
    rw [crc_fb hp hq, hb, ← hX, show 8 * (n - i / 8) - i % 8 = 8 * n - i by omega, BitVec.xor_assoc, BitVec.xor_assoc, BitVec.xor_comm v]
  · have hk : i / 8 - n < (be4 v).length := by simp [be4]; omega
    have e1 : (b ++ be4 v).getD (i / 8) 0 = (be4 v)[i / 8 - n] := by
      rw [List.getD, List.getElem?_append_right (by omega), hb, List.getElem?_eq_getElem hk]; rfl
    rw [e1, List.set_append_right _ _ (by omega), if_neg h1]
    refine ⟨b, v ^^^ BitVec.ofNat 32 (2 ^ (8 * (3 - (i / 8 - n)) + i % 8)), hb, ?_, ?_⟩
    · rw [hb, be4_fb hk hq]
    · rw [← hX, BitVec.xor_assoc]
theorem off_open {n : Nat} {X : BitVec 32} {s : List UInt8} (h : Off n X s) : sealB (s.take n) = s ↔ X = 0#32 := by
  obtain ⟨b, v, hb, rfl, hX⟩ := h
  rw [List.take_append_of_le_length (by omega), List.take_of_length_le (by omega)]
  unfold sealB
  rw [List.append_cancel_left_eq, ← hX]
  constructor
  · intro h; rw [be4_inj h, BitVec.xor_self]
  · intro h; rw [BitVec.xor_eq_zero_iff.1 h]
theorem off_seal (b : List UInt8) : Off b.length 0#32 (sealB b) := ⟨b, crc b, rfl, rfl, BitVec.xor_self⟩
/-- One turned bit is told; two are, but for the same one twice. -/
theorem told {b : List UInt8} {i j : Nat} (hb : b.length ≤ 500) (hi : i < 8 * (b.length + 4)) (hj : j < 8 * (b.length + 4)) :
    sealB ((flipB (sealB b) i).take b.length) ≠ flipB (sealB b) i ∧
    (sealB ((flipB (flipB (sealB b) i) j).take b.length) = flipB (flipB (sealB b) i) j ↔ i = j) ∧ (i = j → flipB (flipB (sealB b) i) j = sealB b) := by
  have o1 := off_flip (off_seal b) hi
  have o2 := off_flip o1 hj
  rw [BitVec.zero_xor] at o1 o2
  refine ⟨fun h => Dt_0 hb hi ((off_open o1).1 h), ?_, ?_⟩
  · rw [off_open o2, BitVec.xor_eq_zero_iff]
    exact ⟨fun h => Dt_inj hb hi hj h, fun h => by rw [h]⟩
  · rintro rfl
    exact flipB2 (by simp [sealB, be4]; omega)
end Go.Proofs.Ytbmkioeeolbdnaa.L
