/- BookRises: the law walked. -/
import Derived.Test.YtjeigcnaalleiaaGreatDoorL34
set_option linter.all false
set_option maxRecDepth 100000
namespace Go.Proofs.YtjeigcnaalleiaaGreatDoor.L
open Go.Proofs.YtjeigcnaalleiaaGreatDoor.M Go.Proofs.YtjeigcnaalleiaaGreatDoor.F Go.Proofs

theorem first17 : run T 7 [] [] = some (.bool true, []) := run_of (n := 300) (by kernel_rfl)
theorem okR_right {r : Rep} (h : rigR r = true) : okR r := by
  obtain ⟨he, hn, ht, hc, _, hl, hl8, hle, hk16, hk⟩ := rigR_all h
  exact ⟨by omega, by omega, fun e he => by have := hle e he; omega⟩
theorem okR_zero : okR zeroR := ⟨by decide, by decide, by simp [zeroR]⟩
theorem okL_R {l : Ln} (h : okL l) : okR (repL l) := by
  rcases h with rfl | ⟨n, r, rfl, _, _, hr⟩
  · exact okR_zero
  · exact okR_right hr
theorem okL_n {l : Ln} (h : okL l) : 0 ≤ l.1 ∧ l.1 ≤ 1048576 := by
  rcases h with rfl | ⟨n, r, rfl, h1, h2, _⟩
  · exact ⟨by decide, by decide⟩
  · exact ⟨by simp only; omega, h2⟩
theorem okL_new : ∀ l ∈ newB, okL l := fun l hl => .inl (List.eq_of_mem_replicate hl)
/-- What a note does to the numbers. -/
theorem not_spec {b : List Ln} {c n : Int} {r : Rep} (hb : b.length = 8) (hok : ∀ l ∈ b, okL l) :
    (∀ l ∈ (notB b c n r).2, okL l) ∧ (notB b c n r).2.length = 8 ∧
    (((notB b c n r).1 = 0 ∧ (lstB (notB b c n r).2 c).1 = (lstB b c).1 + 1 ∧ (lstB (notB b c n r).2 c).1 = n) ∨ ((notB b c n r).1 ≠ 0 ∧ (lstB (notB b c n r).2 c).1 = (lstB b c).1)) := by
  unfold notB
  split
  · exact ⟨hok, hb, .inr ⟨by simp, rfl⟩⟩
  · rename_i hn4
    split
    · exact ⟨hok, hb, .inr ⟨by simp, rfl⟩⟩
    · rename_i hn12
      split
      · exact ⟨hok, hb, .inr ⟨by simp, rfl⟩⟩
      · rename_i hn3
        simp only [not_or, Bool.not_eq_false] at hn4 hn12
        obtain ⟨hc0, hc8, h1, h2⟩ := verB_ok hn4.1
        obtain ⟨k, rfl⟩ : ∃ k : Nat, c = k := ⟨c.toNat, by omega⟩
        have hk : k < b.length := by omega
        refine ⟨fun l hl => ?_, by simp [hb], .inl ⟨rfl, ?_⟩⟩
        · rcases List.mem_or_eq_of_mem_set hl with hl | rfl
          · exact hok l hl
          · exact .inr ⟨n, copR r, rfl, h1, h2, by rw [copR_right hn4.2]; exact hn4.2⟩
        · have hv : n = b[k].1 + 1 := by
            have hvv : verB b k n ≠ 1 ∧ verB b k n ≠ 2 ∧ verB b k n ≠ 3 := ⟨hn12.1, hn12.2, hn3⟩
            unfold verB at hvv
            rw [if_pos ⟨hc0, hc8, h1, h2⟩, Int.toNat_natCast, List.getElem?_eq_getElem hk] at hvv
            simp only at hvv
            split at hvv
            · exact absurd rfl hvv.2.1
            · split at hvv
              · exact absurd rfl hvv.1
              · split at hvv
                · exact absurd rfl hvv.2.2
                · omega
          have e1 : (lstB (b.set k (n, some (copR r))) k).1 = n := by
            unfold lstB
            rw [if_pos ⟨hc0, hc8⟩, Int.toNat_natCast, List.getElem?_set_self hk]
          have e2 : (lstB b k).1 = b[k].1 := by
            unfold lstB
            rw [if_pos ⟨hc0, hc8⟩, Int.toNat_natCast, List.getElem?_eq_getElem hk]
          rw [Int.toNat_natCast, e1, e2]
          exact ⟨hv, rfl⟩
theorem lst_bound {b : List Ln} {c : Int} (hok : ∀ l ∈ b, okL l) : 0 ≤ (lstB b c).1 ∧ (lstB b c).1 ≤ 1048576 := by
  unfold lstB
  split
  · split
    · rename_i l hl
      exact okL_n (hok l (List.mem_of_getElem? hl))
    · simp
  · simp
/-- An operation. -/
abbrev Opn := Int × Int × Rep
def encOp (o : Opn) : List AV := .int .i64 o.1 :: .int .i64 o.2.1 :: encR o.2.2
theorem szOK_Op {p : List Opn} : szOK 8 (p.map encOp) = true := by cases p <;> rfl
attribute [go_sem] szOK_Op
end Go.Proofs.YtjeigcnaalleiaaGreatDoor.L
