/- A law in which the order of two new boxes is drawn: each order's own run, to the end. -/
import Derived.Test.YtibchilpaaiecaaGreatDoorM20
set_option linter.all false
namespace Go.Proofs.YtibchilpaaiecaaGreatDoor.M
open Go.RowKit
def lf (o : Option St) (K : Ex → List AV → AH → Prop) : Prop := match o with | some r => K r.1 r.2.1 r.2.2 | none => False
theorem G4 {e : Ex} {σ : List AV} {h : AH} {K : Ex → List AV → AH → Prop} : lf (some (e, σ, h)) K = K e σ h := rfl
def dv (T : Tbl) : CC → List AV → AH → (Ex → List AV → AH → Prop) → Prop
 | .both a b, σ, h, K => dv T a σ h K ∧ dv T b σ h K
 | .seq a b, σ, h, K => dv T a σ h (fun e σ' h' => match e with | .normal => dv T b σ' h' K | .exit i => K (.exit i) σ' h' | .ret => K .ret σ' h')
 | .block id c, σ, h, K => dv T c σ h (fun e σ' h' => match e with | .normal => K .normal σ' h' | .exit j => if j = id then K .normal σ' h' else K (.exit j) σ' h' | .ret => K .ret σ' h')
 | .kill ws c, σ, h, K => dv T c (dD ws σ) h K
 | .skip, σ, h, K => lf (den T .skip σ h) K
 | .region l, σ, h, K => lf (den T (.region l) σ h) K
 | .dregion l, σ, h, K => lf (den T (.dregion l) σ h) K
 | .cond c x y, σ, h, K => lf (den T (.cond c x y) σ h) K
 | .loop c, σ, h, K => lf (den T (.loop c) σ h) K
 | .exit i, σ, h, K => lf (den T (.exit i) σ h) K
 | .ret, σ, h, K => lf (den T .ret σ h) K
 | .rsplit a b c d, σ, h, K => lf (den T (.rsplit a b c d) σ h) K
def sqQ (T : Tbl) (b : CC) (K : Ex → List AV → AH → Prop) : Ex → List AV → AH → Prop
 | .normal, σ, h => dv T b σ h K
 | .exit i, σ, h => K (.exit i) σ h
 | .ret, σ, h => K .ret σ h
section
variable {T : Tbl} {σ : List AV} {h : AH} {K : Ex → List AV → AH → Prop}
theorem JV {a b : CC} : dv T (.seq a b) σ h K = dv T a σ h (sqQ T b K) := by
 rw [dv]; congr 1; funext e σ' h'; cases e <;> rfl
theorem Am {l : List CO} : dv T (.region l) σ h K = lf (den T (.region l) σ h) K := rfl
theorem JW : dv T .ret σ h K = K .ret σ h := by rw [dv, Jj]; rfl
theorem KX {b : CC} : sqQ T b K .normal σ h = dv T b σ h K := rfl
@[congr] theorem g_lf {o o' : Option St} (h1 : o = o') : lf o K = lf o' K := by rw [h1]
@[congr] theorem g_dv {c : CC} {σ' : List AV} (h1 : σ = σ') : dv T c σ h K = dv T c σ' h K := by rw [h1]
end
attribute [go_sem] JV Am JW KX G4
theorem fo {P : Program} {T : Tbl} (hT : ∀ f d, T f = some d → cW P f d) {c : CC} {σ : List AV} {h : AH} {K K' : Ex → List AV → AH → Prop} (hk : ∀ e σ h, K' e σ h → K e σ h)
  (hd : lf (den T c σ h) K') : W P c σ h K := by
 cases e : den T c σ h with
 | none => rw [e] at hd; exact (show False from hd).elim
 | some r =>
  rw [e] at hd
  obtain ⟨x, σ', h'⟩ := r
  obtain ⟨n, hn⟩ := wT e
  exact mO hT n c σ h x σ' h' K hn (hk _ _ _ hd)
theorem iD {P : Program} {T : Tbl} (hT : ∀ f d, T f = some d → cW P f d) : ∀ (c : CC) (σ : List AV) (h : AH) (K K' : Ex → List AV → AH → Prop), (∀ e σ h, K' e σ h → K e σ h) → dv T c σ h K' → W P c σ h K
 | .both a b, σ, h, K, K', hk, hd => ⟨iD hT a σ h K K' hk hd.1, iD hT b σ h K K' hk hd.2⟩
 | .seq a b, σ, h, K, K', hk, hd => by
  refine iD hT a σ h _ _ ?_ hd
  intro e σ1 h1 hq
  cases e with
  | normal => exact iD hT b σ1 h1 K K' hk hq
  | exit i => exact hk _ _ _ hq
  | ret => exact hk _ _ _ hq
 | .block id c, σ, h, K, K', hk, hd => by
  refine iD hT c σ h _ _ ?_ hd
  intro e σ1 h1 hq
  cases e with
  | normal => exact hk _ _ _ hq
  | exit i =>
   simp only at hq ⊢
   split
   ·rename_i hi; rw [if_pos hi] at hq; exact hk _ _ _ hq
   ·rename_i hi; rw [if_neg hi] at hq; exact hk _ _ _ hq
  | ret => exact hk _ _ _ hq
 | .kill ws c, σ, h, K, K', hk, hd => iD hT c (dD ws σ) h K K' hk hd
 | .skip, σ, h, K, K', hk, hd => fo hT hk hd
 | .region _, σ, h, K, K', hk, hd => fo hT hk hd
 | .dregion _, σ, h, K, K', hk, hd => fo hT hk hd
 | .cond _ _ _, σ, h, K, K', hk, hd => fo hT hk hd
 | .loop _, σ, h, K, K', hk, hd => fo hT hk hd
 | .exit _, σ, h, K, K', hk, hd => fo hT hk hd
 | .ret, σ, h, K, K', hk, hd => fo hT hk hd
 | .rsplit _ _ _ _, σ, h, K, K', hk, hd => fo hT hk hd
end Go.Proofs.YtibchilpaaiecaaGreatDoor.M
/- A call whose new boxes come in an order that is drawn: all that it may answer, walked on. -/
set_option linter.all false
namespace Go.Proofs.YtibchilpaaiecaaGreatDoor.M
open Go.RowKit
def Kq (P : Program) (b : CC) (Q : Ex → List AV → AH → Prop) : Ex → List AV → AH → Prop
 | .normal, σ, h => W P b σ h Q
 | .exit i, σ, h => Q (.exit i) σ h
 | .ret, σ, h => Q .ret σ h
section
variable {P : Program} {b : CC} {Q : Ex → List AV → AH → Prop} {σ : List AV} {h : AH}
theorem kq_n : Kq P b Q .normal σ h = W P b σ h Q := rfl
theorem KY {T : Tbl} (hT : ∀ f d, T f = some d → cW P f d) {a : CC} (hd : dv T a σ h (Kq P b Q)) : W P (.seq a b) σ h Q :=
 iD hT a σ h _ _ (fun e σ h hq => by cases e <;> exact hq) hd
theorem xa : ∀ (l r : List CO) (σ : List AV) (h : AH) (K : List AV → AH → Prop), Wops P (l ++ r) σ h K = Wops P l σ h (fun σ' h' => Wops P r σ' h' K)
 | [], r, σ, h, K => rfl
 | o :: l, r, σ, h, K => by
  show Wg P o σ h _ = Wg P o σ h _
  congr 1
  funext σ' h'
  exact xa l r σ' h' K
theorem JX {T : Tbl} (hT : ∀ f d, T f = some d → cW P f d) {l r : List CO} {d : Nat} {f : FuncId} {xs : List Opd} {σ1 : List AV} {h1 : AH} (hl : dops T l σ h = some (σ1, h1))
  (hc : eU P f (shL (xs.map (ag σ1))) h1 (fun v h2 => ∃ s, dops T r (putA σ1 (some d) v) h2 = some s ∧ Q .normal s.1 s.2)) : W P (.region (l ++ ⟨some d, .call f xs, none⟩ :: r)) σ h Q := by
 show Wops P _ σ h _
 rw [xa]
 obtain ⟨n, hn⟩ : ∃ n, xops T (ev T n) l σ h = some (σ1, h1) := rY l σ h _ hl
 refine kT hT (mO hT n) hn ?_
 show Wg P ⟨some d, .call f xs, none⟩ σ1 h1 (fun σ' h' => Wops P r σ' h' (Q .normal))
 show Wop P (.call f xs) (some d) σ1 h1 (fun σ' h' => Wops P r σ' h' (Q .normal))
 unfold Wop Wu
 simp only [show fk (.call f xs) = true from rfl, if_true]
 refine ⟨f, _, false, rfl, hc.mono fun v h2 ⟨s, hs, hq⟩ => ?_⟩
 rw [aE]
 obtain ⟨n2, hn2⟩ : ∃ n, xops T (ev T n) r (putA σ1 (some d) v) h2 = some s := rY r _ _ _ hs
 exact kT hT (mO hT n2) hn2 hq
end
attribute [go_sem] kq_n
end Go.Proofs.YtibchilpaaiecaaGreatDoor.M
