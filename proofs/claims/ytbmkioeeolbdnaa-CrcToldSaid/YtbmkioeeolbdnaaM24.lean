/- A call whose new boxes come in an order that is drawn: all that it may answer, walked on. -/
import Derived.Test.YtbmkioeeolbdnaaM23
set_option linter.all false
namespace Go.Proofs.Ytbmkioeeolbdnaa.M
open Go.RowKit

theorem W_assoc {P : Program} {a b c : CC} {σ : List AV} {h : AH} {Q : Ex → List AV → AH → Prop} : W P (.seq (.seq a b) c) σ h Q = W P (.seq a (.seq b c)) σ h Q := by
  simp only [W]
/-- What is left to be walked. -/
def Kq (P : Program) (b : CC) (Q : Ex → List AV → AH → Prop) : Ex → List AV → AH → Prop
  | .normal, σ, h => W P b σ h Q
  | .exit i, σ, h => Q (.exit i) σ h
  | .ret, σ, h => Q .ret σ h
section
variable {P : Program} {b : CC} {Q : Ex → List AV → AH → Prop} {σ : List AV} {h : AH}
theorem kq_n : Kq P b Q .normal σ h = W P b σ h Q := rfl
theorem kq_e {i : Nat} : Kq P b Q (.exit i) σ h = Q (.exit i) σ h := rfl
theorem kq_r : Kq P b Q .ret σ h = Q .ret σ h := rfl
@[congr] theorem g_kq {e : Ex} {σ' : List AV} (h1 : σ = σ') : Kq P b Q e σ h = Kq P b Q e σ' h := by rw [h1]
@[congr] theorem g_W {σ' : List AV} (h1 : σ = σ') : W P b σ h Q = W P b σ' h Q := by rw [h1]
theorem W_pre {T : Tbl} (hT : ∀ f d, T f = some d → OkDef P f d) {a : CC} (hd : dv T a σ h (Kq P b Q)) : W P (.seq a b) σ h Q :=
  dv_sound hT a σ h _ _ (fun e σ h hq => by cases e <;> exact hq) hd
theorem Wops_app : ∀ (l r : List CO) (σ : List AV) (h : AH) (K : List AV → AH → Prop), Wops P (l ++ r) σ h K = Wops P l σ h (fun σ' h' => Wops P r σ' h' K)
  | [], r, σ, h, K => rfl
  | o :: l, r, σ, h, K => by
    show Wg P o σ h _ = Wg P o σ h _
    congr 1
    funext σ' h'
    exact Wops_app l r σ' h' K
/-- Operations, a call of whose answer only a law is known, operations. -/
theorem W_call {T : Tbl} (hT : ∀ f d, T f = some d → OkDef P f d) {l r : List CO} {d : Nat} {f : FuncId} {xs : List Opd} {σ1 : List AV} {h1 : AH} (hl : dops T l σ h = some (σ1, h1))
    (hc : CallW P f (shL (xs.map (evalO σ1))) h1 (fun v h2 => ∃ s, dops T r (putA σ1 (some d) v) h2 = some s ∧ Q .normal s.1 s.2)) : W P (.region (l ++ ⟨some d, .call f xs, none⟩ :: r)) σ h Q := by
  show Wops P _ σ h _
  rw [Wops_app]
  obtain ⟨n, hn⟩ : ∃ n, xops T (ev T n) l σ h = some (σ1, h1) := fin_ops l σ h _ hl
  refine xops_sound hT (ev_sound hT n) hn ?_
  show Wg P ⟨some d, .call f xs, none⟩ σ1 h1 (fun σ' h' => Wops P r σ' h' (Q .normal))
  show Wop P (.call f xs) (some d) σ1 h1 (fun σ' h' => Wops P r σ' h' (Q .normal))
  unfold Wop Wu
  simp only [show isCall (.call f xs) = true from rfl, if_true]
  refine ⟨f, _, false, rfl, hc.mono fun v h2 ⟨s, hs, hq⟩ => ?_⟩
  rw [putL_put]
  obtain ⟨n2, hn2⟩ : ∃ n, xops T (ev T n) r (putA σ1 (some d) v) h2 = some s := fin_ops r _ _ _ hs
  exact xops_sound hT (ev_sound hT n2) hn2 hq
end
attribute [go_sem] kq_n kq_e kq_r
end Go.Proofs.Ytbmkioeeolbdnaa.M
