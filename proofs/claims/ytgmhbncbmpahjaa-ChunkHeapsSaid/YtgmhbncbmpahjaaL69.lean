/- Regions whose order is drawn: their last check, by rewriting. -/
import Derived.Test.YtgmhbncbmpahjaaL1
set_option linter.all false
set_option maxRecDepth 100000
namespace Go.Proofs.Ytgmhbncbmpahjaa.L
open Go.Proofs.Ytgmhbncbmpahjaa.M Go.Proofs.Ytgmhbncbmpahjaa.F Go.Proofs

section
variable {S : List Nat} {E : List (AH × AH)} {h h' : AH} {σ : List AV} {o : CO} {d : Option Nat} {m : Option Nat} {x : Opd} {g : Option (Nat × Bool)} {f : FuncId} {xs : List Opd}
def gVV (v : Option AV) (w : Bool) : Option Bool := match v with | some (.bool b) => some (b == w) | some .any => none | _ => some false
def addSL (b : Option Bool) (v : AV) (S : List Nat) : List Nat := match b, v with | some true, .box id _ => id :: S | some true, .mp id => id :: S | _, _ => S
theorem adE_f : addE (o, false) h h' E = E := rfl
theorem adE_l : addE (⟨d, .load m x, g⟩, true) h h' E = E := rfl
theorem adE_c : addE (⟨d, .call f xs, g⟩, true) h h' E = (h, h') :: E := rfl
theorem adS_f : addS (o, false) σ S = S := rfl
theorem adS_c : addS (⟨d, .call f xs, g⟩, true) σ S = S := rfl
theorem adS_l : addS (⟨d, .load m x, g⟩, true) σ S = addSL (gV σ g) (evalO σ x) S := by
  simp only [addS, addSL, isL, Bool.and_self, if_true, loadOpd]
  cases gV σ g with
  | none => rfl
  | some b => cases b <;> rfl
theorem gV_n : gV σ none = some true := rfl
theorem gV_s {s : Nat} {w : Bool} : gV σ (some (s, w)) = gVV σ[s]? w := by
  simp only [gV, gVV]
  cases σ[s]? with
  | none => rfl
  | some v => cases v <;> rfl
theorem gVV_b {b w : Bool} : gVV (some (.bool b)) w = some (b == w) := rfl
theorem aSL_b {id off : Nat} : addSL (some true) (.box id off) S = id :: S := rfl
theorem all_nil : (∀ e ∈ ([] : List (AH × AH)), sameS S e.1 e.2) = True := by simp
theorem all_cons {e : AH × AH} : (∀ e' ∈ e :: E, sameS S e'.1 e'.2) = (sameS S e.1 e.2 ∧ ∀ e' ∈ E, sameS S e'.1 e'.2) := by simp
theorem same_self : sameS S h h = True := by simp [sameS]
theorem same_nil : sameS [] h h' = True := by simp [sameS]
theorem same_cons {i : Nat} : sameS (i :: S) h h' = (h'[i]? = h[i]? ∧ sameS S h h') := by simp [sameS]
end
attribute [go_sem] adE_f adE_l adE_c adS_f adS_c adS_l gV_n gV_s gVV_b aSL_b same_self same_nil same_cons
attribute [go_sem ↓] all_nil all_cons
theorem adE_st {d : Option Nat} {n : Nat} {x y : Opd} {gd : Option (Nat × Bool)} {h h' : AH} {E : List (AH × AH)} : addE (⟨d, .store n x y, gd⟩, true) h h' E = (h, h') :: E := rfl
theorem adS_st {d : Option Nat} {n : Nat} {x y : Opd} {gd : Option (Nat × Bool)} {σ : List AV} {S : List Nat} : addS (⟨d, .store n x y, gd⟩, true) σ S = S := rfl
attribute [go_sem] adE_st adS_st
end Go.Proofs.Ytgmhbncbmpahjaa.L
