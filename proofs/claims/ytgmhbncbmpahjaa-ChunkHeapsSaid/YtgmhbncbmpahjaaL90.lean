/- Heaps: what the program's map and the document's lists say of each other. -/
import Derived.Test.YtgmhbncbmpahjaaL14
set_option linter.all false
set_option maxRecDepth 100000
namespace Go.Proofs.Ytgmhbncbmpahjaa.L
open Go.Proofs.Ytgmhbncbmpahjaa.M Go.Proofs.Ytgmhbncbmpahjaa.F Go.Proofs

abbrev Es := List (Int × List UInt8)
theorem fnd_app {i j : Int} {c : List UInt8} : ∀ (es : Es) (k : Nat), fnd i (es ++ [(j, c)]) k = match fnd i es k with | some x => some x | none => if i = j then some (k + es.length, c) else none
  | [], k => by simp [fnd]
  | p :: es, k => by
    simp only [List.cons_append, fnd]
    by_cases h : i = p.1
    · rw [if_pos h, if_pos h]
    · rw [if_neg h, if_neg h, fnd_app es (k + 1), List.length_cons, show k + 1 + es.length = k + (es.length + 1) by omega]
theorem fnd_ge {i : Int} : ∀ {es : Es} {k r : Nat} {w : List UInt8}, fnd i es k = some (r, w) → k ≤ r
  | [], k, r, w, h => by cases h
  | p :: es, k, r, w, h => by
    simp only [fnd] at h
    split at h
    · simp only [Option.some.injEq, Prod.mk.injEq] at h; omega
    · have := fnd_ge h; omega
theorem fnd_set {i j : Int} {c : List UInt8} : ∀ (es : Es) (k r : Nat) (w : List UInt8), fnd j es k = some (r, w) → fnd i (es.set (r - k) (j, c)) k = if i = j then some (r, c) else fnd i es k
  | [], k, r, w, h => by cases h
  | p :: es, k, r, w, h => by
    simp only [fnd] at h
    by_cases hj : j = p.1
    · rw [if_pos hj] at h
      simp only [Option.some.injEq, Prod.mk.injEq] at h
      obtain ⟨rfl, _⟩ := h
      rw [Nat.sub_self, List.set_cons_zero]
      simp only [fnd]
      by_cases hi : i = j
      · rw [if_pos hi, if_pos hi]
      · rw [if_neg hi, if_neg hi, if_neg (by rw [← hj]; exact hi)]
    · rw [if_neg hj] at h
      have hge := fnd_ge h
      have ih := fnd_set (i := i) (c := c) es (k + 1) r w h
      rw [show r - k = (r - (k + 1)) + 1 by omega, List.set_cons_succ]
      simp only [fnd]
      by_cases hi : i = p.1
      · rw [if_pos hi, if_neg (by rw [hi]; exact fun q => hj q.symm), if_pos hi]
      · rw [if_neg hi, if_neg hi]; exact ih
theorem fnd_put {i j : Int} {c : List UInt8} (es : Es) : (i = j → ∃ k, fnd i (putE j c es) 0 = some (k, c)) ∧ (i ≠ j → fnd i (putE j c es) 0 = fnd i es 0) ∧ (putE j c es).length = es.length + (if fnd j es 0 = none then 1 else 0) := by
  unfold putE
  cases h : fnd j es 0 with
  | none =>
    simp only
    refine ⟨fun e => ?_, fun e => ?_, by simp⟩
    · subst e; rw [fnd_app, h, if_pos rfl]; exact ⟨_, rfl⟩
    · rw [fnd_app, if_neg e]; cases fnd i es 0 <;> rfl
  | some p =>
    obtain ⟨r, w⟩ := p
    have := fnd_set (i := i) (c := c) es 0 r w h
    rw [Nat.sub_zero] at this
    simp only
    refine ⟨fun e => ?_, fun e => ?_, by simp⟩
    · rw [this, if_pos e]; exact ⟨_, rfl⟩
    · rw [this, if_neg e]
/-- The map and the lists say the same. -/
structure Rel (n : Nat) (es : Es) (hs : List Bool) (ps : List (List UInt8)) : Prop where
  hl : hs.length = n
  pl : ps.length = n
  yes : ∀ i : Nat, hs[i]? = some true → ∃ k c, fnd (i : Int) es 0 = some (k, c) ∧ ps[i]? = some c
  no : ∀ i : Nat, hs[i]? = some false → fnd (i : Int) es 0 = none
  ct : es.length = hs.count true
theorem rel_new (n : Nat) : Rel n [] (List.replicate n false) (List.replicate n []) := by
  refine ⟨by simp, by simp, fun i h => ?_, fun i h => rfl, by simp [List.count_replicate]⟩
  rw [List.getElem?_replicate] at h
  split at h <;> cases h
theorem rel_put {n : Nat} {es : Es} {hs : List Bool} {ps : List (List UInt8)} (h : Rel n es hs ps) {i : Nat} (hi : i < n) (c : List UInt8) : Rel n (putE (i : Int) c es) (hs.set i true) (ps.set i c) := by
  have hih : i < hs.length := by rw [h.hl]; exact hi
  have hip : i < ps.length := by rw [h.pl]; exact hi
  refine ⟨by rw [List.length_set]; exact h.hl, by rw [List.length_set]; exact h.pl, fun j hj => ?_, fun j hj => ?_, ?_⟩
  · by_cases e : j = i
    · subst e
      obtain ⟨k, hk⟩ := (fnd_put (i := (j : Int)) (j := (j : Int)) (c := c) es).1 rfl
      exact ⟨k, c, hk, List.getElem?_set_self hip⟩
    · rw [List.getElem?_set_ne (fun q => e q.symm)] at hj
      obtain ⟨k, w, h1, h2⟩ := h.yes j hj
      refine ⟨k, w, ?_, by rw [List.getElem?_set_ne (fun q => e q.symm)]; exact h2⟩
      rw [(fnd_put (i := (j : Int)) (j := (i : Int)) (c := c) es).2.1 (by omega)]; exact h1
  · by_cases e : j = i
    · subst e; rw [List.getElem?_set_self hih] at hj; cases hj
    · rw [List.getElem?_set_ne (fun q => e q.symm)] at hj
      rw [(fnd_put (i := (j : Int)) (j := (i : Int)) (c := c) es).2.1 (by omega)]
      exact h.no j hj
  · rw [(fnd_put (i := (i : Int)) (j := (i : Int)) (c := c) es).2.2, List.count_set hih, h.ct]
    cases hb : hs[i] with
    | true =>
      obtain ⟨k, w, h1, _⟩ := h.yes i (by rw [List.getElem?_eq_getElem hih, hb])
      have hpos : 0 < hs.count true := List.count_pos_iff.2 (by rw [← hb]; exact List.getElem_mem hih)
      rw [h1]; simp; omega
    | false =>
      rw [h.no i (by rw [List.getElem?_eq_getElem hih, hb])]; simp
theorem cnt_add : ∀ hs : List Bool, hs.count true + hs.count false = hs.length
  | [] => rfl
  | true :: hs => by have := cnt_add hs; simp; omega
  | false :: hs => by have := cnt_add hs; simp; omega
/-! ### the first that misses -/
def ff : List Bool → Nat → Int
  | [], _ => -1
  | false :: _, k => (k : Int)
  | true :: r, k => ff r (k + 1)
theorem ff_f {r : List Bool} {k : Nat} : ff (false :: r) k = (k : Int) := rfl
theorem ff_t {r : List Bool} {k : Nat} : ff (true :: r) k = ff r (k + 1) := rfl
theorem ff_neg : ∀ {l : List Bool} {k : Nat}, ff l k = -1 ↔ ∀ b ∈ l, b = true
  | [], k => by simp [ff]
  | false :: r, k => by simp only [ff]; exact ⟨fun h => by omega, fun h => absurd (h false (by simp)) (by simp)⟩
  | true :: r, k => by simp only [ff]; rw [ff_neg]; simp
theorem ff_app : ∀ (a b : List Bool) (k : Nat), ff (a ++ b) k = if ff a k = -1 then ff b (k + a.length) else ff a k
  | [], b, k => by simp [ff]
  | false :: r, b, k => by rw [List.cons_append, ff_f, ff_f, if_neg (by omega)]
  | true :: r, b, k => by
    rw [List.cons_append, ff_t, ff_t, List.length_cons, ff_app r b (k + 1), show k + 1 + r.length = k + (r.length + 1) by omega]
/-- What the document says is next. -/
def nx (hs : List Bool) (i : Int) : Int := if ff (hs.drop i.toNat) i.toNat = -1 then ff hs 0 else ff (hs.drop i.toNat) i.toNat
section
variable {n : Nat} {es : Es} {hs : List Bool} {ps : List (List UInt8)}
theorem nxt_up (h : Rel n es hs ps) : ∀ (d i t : Nat), d + i = n → i < n → nxt es n (d + t) i = if ff (hs.drop i) i = -1 then nxt es n t 0 else ff (hs.drop i) i
  | 0, i, t, hd, hi => by omega
  | d + 1, i, t, hd, hi => by
    have hih : i < hs.length := by rw [h.hl]; exact hi
    rw [show d + 1 + t = (d + t) + 1 by omega, List.drop_eq_getElem_cons hih]
    cases hb : hs[i] with
    | false =>
      have hf := h.no i (by rw [List.getElem?_eq_getElem hih, hb])
      simp only [nxt, hf]
      rw [ff_f, if_neg (by omega)]
    | true =>
      obtain ⟨k, w, hf, _⟩ := h.yes i (by rw [List.getElem?_eq_getElem hih, hb])
      simp only [nxt, hf]
      rw [ff_t]
      by_cases he : i + 1 = n
      · rw [if_pos (by omega)]
        obtain rfl : d = 0 := by omega
        rw [List.drop_eq_nil_of_le (by have := h.hl; omega), Nat.zero_add]
        simp [ff]
      · rw [if_neg (by omega)]
        have := nxt_up h d (i + 1) t (by omega) (by omega)
        rw [← this]
        simp
theorem nxt_few (h : Rel n es hs ps) : ∀ (t i : Nat), i + t ≤ n → i < n → nxt es n t i = ff ((hs.drop i).take t) i
  | 0, i, _, _ => by simp [nxt, ff]
  | t + 1, i, hd, hi => by
    have hih : i < hs.length := by rw [h.hl]; exact hi
    rw [List.drop_eq_getElem_cons hih, List.take_succ_cons]
    cases hb : hs[i] with
    | false =>
      have hf := h.no i (by rw [List.getElem?_eq_getElem hih, hb])
      simp only [nxt, hf, ff]
    | true =>
      obtain ⟨k, w, hf, _⟩ := h.yes i (by rw [List.getElem?_eq_getElem hih, hb])
      simp only [nxt, hf, ff]
      by_cases he : i + 1 = n
      · rw [if_pos (by omega)]
        obtain rfl : t = 0 := by omega
        simp [nxt, ff]
      · rw [if_neg (by omega)]
        have := nxt_few h t (i + 1) (by omega) (by omega)
        rw [← this]
        simp
theorem all_true {l : List Bool} (h : l.count false = 0) : ∀ b ∈ l, b = true := by
  intro b hb
  cases b with
  | true => rfl
  | false => exact absurd hb (List.count_eq_zero.1 h)
theorem next_eq {l s d i : Int} (h : Rel n es hs ps) (hn : (n : Int) = cnt l s d) : nextR l s d i es = nx hs i := by
  have hca := cnt_add hs
  have hct := h.ct
  have hl := h.hl
  unfold nextR
  by_cases hz : cnt l s d - es.length = 0
  · rw [if_pos hz]
    have hall : ∀ b ∈ hs, b = true := all_true (by omega)
    have h1 : ff (hs.drop i.toNat) i.toNat = -1 := ff_neg.2 fun b hb => hall b (List.mem_of_mem_drop hb)
    unfold nx
    rw [if_pos h1, ff_neg.2 hall]
  · rw [if_neg hz, ← hn, Int.toNat_natCast]
    have hn0 : 0 < n := by omega
    unfold startI nx
    by_cases hi : (n : Int) ≤ max i 0
    · rw [if_pos hi]
      rw [List.drop_eq_nil_of_le (by omega)]
      have := nxt_few h n 0 (by omega) hn0
      rw [List.drop_zero, List.take_of_length_le (by omega)] at this
      simp only [ff, if_true]
      exact this
    · rw [if_neg hi]
      obtain ⟨u, hu⟩ : ∃ u : Nat, max i 0 = u := ⟨(max i 0).toNat, by omega⟩
      have hiu : i.toNat = u := by omega
      rw [hu, hiu]
      have h1 := nxt_up h (n - u) u u (by omega) (by omega)
      rw [show n - u + u = n by omega] at h1
      rw [h1]
      by_cases hq : ff (hs.drop u) u = -1
      · rw [if_pos hq, if_pos hq]
        have h2 := nxt_few h u 0 (by omega) hn0
        rw [List.drop_zero] at h2
        simp only [Int.natCast_zero] at h2
        rw [h2]
        conv => rhs; rw [← List.take_append_drop u hs]
        rw [ff_app]
        split
        · rename_i h3; rw [h3, Nat.zero_add, List.length_take, Nat.min_eq_left (by omega)]; exact hq.symm
        · rfl
      · rw [if_neg hq, if_neg hq]
end
end Go.Proofs.Ytgmhbncbmpahjaa.L
