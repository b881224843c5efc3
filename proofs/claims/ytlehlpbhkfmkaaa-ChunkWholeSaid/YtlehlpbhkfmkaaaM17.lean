/- Slices that are built by append: nil at first, then owned. -/
import Derived.Test.YtlehlpbhkfmkaaaM16
set_option linter.all false
namespace Go.Proofs.Ytlehlpbhkfmkaaa.M
open Go.RowKit

/-- A slice that was built by append out of nil. -/
def ow (l : List (List AV)) : AV := if l.isEmpty then .sl .ex [] else .sl .own l
theorem ow_nil : AV.sl .ex [] = ow [] := rfl
theorem ow_cases (l : List (List AV)) : ∃ m, ow l = .sl m l ∧ m ≠ .sh := by
  cases l with
  | nil => exact ⟨.ex, rfl, by decide⟩
  | cons e l => exact ⟨.own, rfl, by decide⟩
theorem ow_sh {l : List (List AV)} : (ow l).sh = .sl .sh l := by obtain ⟨m, h, _⟩ := ow_cases l; rw [h]; rfl
theorem ow_cells {l : List (List AV)} : (ow l).cells = [ow l] := by obtain ⟨m, h, _⟩ := ow_cases l; rw [h]; rfl
theorem ow_one {l : List (List AV)} : (ow l).one = true := by obtain ⟨m, h, _⟩ := ow_cases l; rw [h]; rfl
theorem ow_mr {l : List (List AV)} : (ow l).mr = mrLL l := by obtain ⟨m, h, _⟩ := ow_cases l; rw [h]; rfl
section
variable {S bytes : Nat} {l fs : List (List AV)} {k k' : IntKind} {i : Int} {lo hi : Option Int}
theorem ow_len : lenlV (ow l) = some (.int .i64 l.length) := by obtain ⟨m, h, _⟩ := ow_cases l; rw [h]; rfl
theorem ow_news : newsV false (ow l) = some l := by obtain ⟨m, h, _⟩ := ow_cases l; rw [h]; rfl
theorem ow_ia (h0 : 0 ≤ i) : iaddrV S none (ow l) (.int k i) = elemV S l[i.toNat]? := by obtain ⟨m, h, _⟩ := ow_cases l; rw [h]; exact ia_sl h0
theorem ow_bytes {b : List UInt8} : bytesV (ow (b.map encB)) = some (.str ⟨b.toArray⟩) := by obtain ⟨m, h, _⟩ := ow_cases (b.map encB); rw [h]; exact bytes_enc
theorem app_ow (h2 : szOK S l = true) (h3 : szOK S fs = true) (h4 : (l.length + fs.length) * bytes ≤ 140737488355328) (h5 : l.length + fs.length ≤ 9223372036854775807) :
    appV S bytes (ow l) (some fs) = some (ow (l ++ fs)) := by
  obtain ⟨m, h, hm⟩ := ow_cases l
  rw [h, app_ok (by cases m <;> simp at hm ⊢ <;> rfl) h2 h3 h4 h5]
  cases fs with
  | nil => rw [apR_nil, List.append_nil, h]
  | cons f fs =>
    rw [apR_cons]
    obtain ⟨m', h', _⟩ := ow_cases (l ++ f :: fs)
    have : ow (l ++ f :: fs) = .sl .own (l ++ f :: fs) := by
      cases l <;> rfl
    rw [this]
/-- Onto a slice without room. -/
theorem app_ex {f : List AV} (h2 : szOK S l = true) (h3 : szOK S (f :: fs) = true) (h4 : (l.length + (f :: fs).length) * bytes ≤ 140737488355328) (h5 : l.length + (f :: fs).length ≤ 9223372036854775807) :
    appV S bytes (.sl .ex l) (some (f :: fs)) = some (ow (l ++ f :: fs)) := by
  rw [app_ok rfl h2 h3 h4 h5, apR_cons]
  cases l <;> rfl
theorem szOK_app {a b : List (List AV)} (h1 : szOK S a = true) (h2 : szOK S b = true) : szOK S (a ++ b) = true := by
  cases a with
  | nil => exact h2
  | cons e a => exact h1
theorem mrLL_app : ∀ (a b : List (List AV)), mrLL (a ++ b) = max (mrLL a) (mrLL b)
  | [], b => by simp [mrLL]
  | e :: a, b => by simp only [List.cons_append, mrLL, mrLL_app a b]; omega
end

theorem bconv_own {es : List (List AV)} : bconvV (.sl .own es) = some (.sl .sh es) := rfl
/-! ### loops -/
theorem kills_get : ∀ (ws : List Nat) (σ : List AV) (i : Nat), (kills ws σ)[i]? = if i ∈ ws ∧ i < σ.length then some .any else σ[i]?
  | [], σ, i => by simp [kills]
  | j :: ws, σ, i => by
    rw [kills, kills_get ws]
    simp only [List.length_set, List.mem_cons]
    by_cases h1 : i ∈ ws ∧ i < σ.length
    · rw [if_pos h1, if_pos ⟨.inr h1.1, h1.2⟩]
    · rw [if_neg h1]
      by_cases h2 : i = j
      · subst h2
        by_cases h3 : i < σ.length
        · rw [List.getElem?_set_self h3, if_pos ⟨.inl rfl, h3⟩]
        · rw [if_neg (by omega), List.getElem?_eq_none (by simp; omega), List.getElem?_eq_none (by omega)]
      · rw [List.getElem?_set_ne (by omega), if_neg (by rintro ⟨h4 | h4, h5⟩; exact h2 h4; exact h1 ⟨h4, h5⟩)]
theorem kills_len : ∀ (ws : List Nat) (σ : List AV), (kills ws σ).length = σ.length
  | [], σ => rfl
  | j :: ws, σ => by rw [kills, kills_len ws, List.length_set]
theorem kills_kills (ws : List Nat) (σ : List AV) : kills ws (kills ws σ) = kills ws σ := by
  apply List.ext_getElem?
  intro i
  rw [kills_get, kills_get, kills_len]
  split <;> rfl
noncomputable def loopK (T : Tbl) (ws : List Nat) (c : CC) (e : Ex) (σ : List AV) (h : AH) : Option St :=
  match e with | .normal => den T (.loop (.kill ws c)) (kills ws σ) h | .exit i => some (.exit i, σ, h) | .ret => some (.ret, σ, h)
theorem lp_kill {T : Tbl} {ws : List Nat} {c : CC} {σ : List AV} {h : AH} : den T (.loop (.kill ws c)) σ h = den T (.loop (.kill ws c)) (kills ws σ) h := by
  rw [d_loop, d_kill, d_loop, d_kill, kills_kills]
/-- One round of a loop that forgets at its head. -/
theorem lp_round {T : Tbl} {ws : List Nat} {c : CC} {σ : List AV} {h : AH} : den T (.loop (.kill ws c)) σ h = bnd (den T c (kills ws σ) h) (loopK T ws c) := by
  rw [d_loop, d_kill]
  cases den T c (kills ws σ) h with
  | none => rfl
  | some r =>
    obtain ⟨e, σ', h'⟩ := r
    cases e
    · simp only [bnd, seqK, loopK]; rw [lp_kill]
    · rfl
    · rfl
section
variable {T : Tbl} {ws : List Nat} {c : CC} {σ σ' : List AV} {h h' : AH}
theorem lk_n : loopK T ws c .normal σ h = den T (.loop (.kill ws c)) (kills ws σ) h := rfl
theorem lk_e {i : Nat} : loopK T ws c (.exit i) σ h = some (.exit i, σ, h) := rfl
theorem lk_r : loopK T ws c .ret σ h = some (.ret, σ, h) := rfl
@[congr] theorem g_loopK {e : Ex} (h1 : σ = σ') (h2 : h = h') : loopK T ws c e σ h = loopK T ws c e σ' h' := by rw [h1, h2]
end
end Go.Proofs.Ytlehlpbhkfmkaaa.M
