/- A law in which the order of two new boxes is drawn: each order's own run, to the end. -/
import Derived.Test.YtibchilpaaiecaaGreatDoorM20
set_option linter.all false
namespace Go.Proofs.YtibchilpaaiecaaGreatDoor.M
open Go.RowKit
def lf (o : Option St) (K : Ex → List AV → AH → Prop) : Prop := match o with | some r => K r.1 r.2.1 r.2.2 | none => False
theorem lf_some {e : Ex} {σ : List AV} {h : AH} {K : Ex → List AV → AH → Prop} : lf (some (e, σ, h)) K = K e σ h := rfl
def dv (T : Tbl) : CC → List AV → AH → (Ex → List AV → AH → Prop) → Prop
  | .both a b, σ, h, K => dv T a σ h K ∧ dv T b σ h K
  | .seq a b, σ, h, K => dv T a σ h (fun e σ' h' => match e with | .normal => dv T b σ' h' K | .exit i => K (.exit i) σ' h' | .ret => K .ret σ' h')
  | .block id c, σ, h, K => dv T c σ h (fun e σ' h' => match e with | .normal => K .normal σ' h' | .exit j => if j = id then K .normal σ' h' else K (.exit j) σ' h' | .ret => K .ret σ' h')
  | .kill ws c, σ, h, K => dv T c (kills ws σ) h K
  | .skip, σ, h, K => lf (den T .skip σ h) K
  | .region l, σ, h, K => lf (den T (.region l) σ h) K
  | .dregion l, σ, h, K => lf (den T (.dregion l) σ h) K
  | .cond c x y, σ, h, K => lf (den T (.cond c x y) σ h) K
  | .loop c, σ, h, K => lf (den T (.loop c) σ h) K
  | .exit i, σ, h, K => lf (den T (.exit i) σ h) K
  | .ret, σ, h, K => lf (den T .ret σ h) K
  | .rsplit a b c d, σ, h, K => lf (den T (.rsplit a b c d) σ h) K
def sqQ (T : Tbl) (b : CC) (K : Ex → List AV → AH → Prop) : Ex → List AV → AH → Prop
  | .normal, σ, h => dv T b σ h K
  | .exit i, σ, h => K (.exit i) σ h
  | .ret, σ, h => K .ret σ h
def blQ (id : Nat) (K : Ex → List AV → AH → Prop) : Ex → List AV → AH → Prop
  | .normal, σ, h => K .normal σ h
  | .exit j, σ, h => if j = id then K .normal σ h else K (.exit j) σ h
  | .ret, σ, h => K .ret σ h
section
variable {T : Tbl} {σ : List AV} {h : AH} {K : Ex → List AV → AH → Prop}
theorem dv_seq {a b : CC} : dv T (.seq a b) σ h K = dv T a σ h (sqQ T b K) := by
  rw [dv]; congr 1; funext e σ' h'; cases e <;> rfl
theorem dv_block {id : Nat} {c : CC} : dv T (.block id c) σ h K = dv T c σ h (blQ id K) := by
  rw [dv]; congr 1; funext e σ' h'; cases e <;> rfl
theorem dv_both {a b : CC} : dv T (.both a b) σ h K = (dv T a σ h K ∧ dv T b σ h K) := rfl
theorem dv_kill {ws : List Nat} {c : CC} : dv T (.kill ws c) σ h K = dv T c (kills ws σ) h K := rfl
theorem dv_skip : dv T .skip σ h K = K .normal σ h := by rw [dv, d_skip]; rfl
theorem dv_region {l : List CO} : dv T (.region l) σ h K = lf (den T (.region l) σ h) K := rfl
theorem dv_dregion {l : List (CO × Bool)} : dv T (.dregion l) σ h K = lf (den T (.dregion l) σ h) K := rfl
theorem dv_cond {c : Opd} {x y : CC} : dv T (.cond c x y) σ h K = lf (den T (.cond c x y) σ h) K := rfl
theorem dv_loop {c : CC} : dv T (.loop c) σ h K = lf (den T (.loop c) σ h) K := rfl
theorem dv_exit {i : Nat} : dv T (.exit i) σ h K = K (.exit i) σ h := by rw [dv, d_exit]; rfl
theorem dv_ret : dv T .ret σ h K = K .ret σ h := by rw [dv, d_ret]; rfl
theorem sqQ_n {b : CC} : sqQ T b K .normal σ h = dv T b σ h K := rfl
theorem sqQ_e {b : CC} {i : Nat} : sqQ T b K (.exit i) σ h = K (.exit i) σ h := rfl
theorem sqQ_r {b : CC} : sqQ T b K .ret σ h = K .ret σ h := rfl
theorem blQ_n {id : Nat} : blQ id K .normal σ h = K .normal σ h := rfl
theorem blQ_e {id : Nat} : blQ id K (.exit id) σ h = K .normal σ h := by simp [blQ]
theorem blQ_r {id : Nat} : blQ id K .ret σ h = K .ret σ h := rfl
@[congr] theorem g_lf {o o' : Option St} (h1 : o = o') : lf o K = lf o' K := by rw [h1]
@[congr] theorem g_dv {c : CC} {σ' : List AV} (h1 : σ = σ') : dv T c σ h K = dv T c σ' h K := by rw [h1]
@[congr] theorem g_sqQ {b : CC} {e : Ex} {σ' : List AV} (h1 : σ = σ') : sqQ T b K e σ h = sqQ T b K e σ' h := by rw [h1]
end
attribute [go_sem] dv_seq dv_block dv_both dv_kill dv_skip dv_region dv_dregion dv_cond dv_loop dv_exit dv_ret sqQ_n sqQ_e sqQ_r blQ_n blQ_e blQ_r lf_some
theorem leaf_sound {P : Program} {T : Tbl} (hT : ∀ f d, T f = some d → OkDef P f d) {c : CC} {σ : List AV} {h : AH} {K K' : Ex → List AV → AH → Prop} (hk : ∀ e σ h, K' e σ h → K e σ h)
    (hd : lf (den T c σ h) K') : W P c σ h K := by
  cases e : den T c σ h with
  | none => rw [e] at hd; exact (show False from hd).elim
  | some r =>
    rw [e] at hd
    obtain ⟨x, σ', h'⟩ := r
    obtain ⟨n, hn⟩ := of_den e
    exact ev_sound hT n c σ h x σ' h' K hn (hk _ _ _ hd)
theorem dv_sound {P : Program} {T : Tbl} (hT : ∀ f d, T f = some d → OkDef P f d) : ∀ (c : CC) (σ : List AV) (h : AH) (K K' : Ex → List AV → AH → Prop), (∀ e σ h, K' e σ h → K e σ h) → dv T c σ h K' → W P c σ h K
  | .both a b, σ, h, K, K', hk, hd => ⟨dv_sound hT a σ h K K' hk hd.1, dv_sound hT b σ h K K' hk hd.2⟩
  | .seq a b, σ, h, K, K', hk, hd => by
    refine dv_sound hT a σ h _ _ ?_ hd
    intro e σ1 h1 hq
    cases e with
    | normal => exact dv_sound hT b σ1 h1 K K' hk hq
    | exit i => exact hk _ _ _ hq
    | ret => exact hk _ _ _ hq
  | .block id c, σ, h, K, K', hk, hd => by
    refine dv_sound hT c σ h _ _ ?_ hd
    intro e σ1 h1 hq
    cases e with
    | normal => exact hk _ _ _ hq
    | exit i =>
      simp only at hq ⊢
      split
      · rename_i hi; rw [if_pos hi] at hq; exact hk _ _ _ hq
      · rename_i hi; rw [if_neg hi] at hq; exact hk _ _ _ hq
    | ret => exact hk _ _ _ hq
  | .kill ws c, σ, h, K, K', hk, hd => dv_sound hT c (kills ws σ) h K K' hk hd
  | .skip, σ, h, K, K', hk, hd => leaf_sound hT hk hd
  | .region _, σ, h, K, K', hk, hd => leaf_sound hT hk hd
  | .dregion _, σ, h, K, K', hk, hd => leaf_sound hT hk hd
  | .cond _ _ _, σ, h, K, K', hk, hd => leaf_sound hT hk hd
  | .loop _, σ, h, K, K', hk, hd => leaf_sound hT hk hd
  | .exit _, σ, h, K, K', hk, hd => leaf_sound hT hk hd
  | .ret, σ, h, K, K', hk, hd => leaf_sound hT hk hd
  | .rsplit _ _ _ _, σ, h, K, K', hk, hd => leaf_sound hT hk hd
def endB (cf : CFn) (b : Bool) (e : Ex) (σ : List AV) (h : AH) : Prop := e.fin ∧ retV h cf.res σ = some [.bool b]
theorem end_r {cf : CFn} {b : Bool} {σ : List AV} {h : AH} : endB cf b .ret σ h = (retV h cf.res σ = some [.bool b]) := by simp [endB, Ex.fin]
attribute [go_sem] end_r
theorem fork_call {P : Program} {T : Tbl} (hT : ∀ f d, T f = some d → OkDef P f d) {f : FuncId} {cf : CFn} (hf : IsFn P f cf) {args : List AV} {b : Bool}
    (hd : dv T cf.body (args ++ List.replicate (cf.ntmps - args.length) undefA) [] (endB cf b)) : CallW P f args [] (fun r h => r = .bool b ∧ h = []) := by
  refine CallW_gc (call_of_body hf (dv_sound hT _ _ _ _ _ ?_ hd) ⟨.bool b, [], by simp [AV.mr], by simp, fun i hi => absurd hi (by simp), rfl, rfl⟩)
  rintro e σ h ⟨h1, h2⟩
  exact ⟨h1, _, h2, by simp [oneOf, AV.mr], by simp, fun i hi => absurd hi (by simp), rfl, rfl⟩
theorem fork_calls {P : Program} {T : Tbl} {w : World} (hT : ∀ f d, T f = some d → OkDef P f d) {f : FuncId} {cf : CFn} (hf : IsFn P f cf) {args : List AV} {b : Bool}
    (hd : dv T cf.body (args ++ List.replicate (cf.ntmps - args.length) undefA) [] (endB cf b)) {vs : List Value} (hv : VL (gW w) args vs) (hcl : clL args = true) (hw : GW w) (hg : Gl (gW w)) :
    Calls P f vs.toArray w fun e w' => e = .returned (.bool b) ∧ Below w.heap.size w w' := by
  have hc := fork_call hT hf hd
  refine (hc.2.1 w (gW w) _ w vs hv hcl (Inv.start w hw hg)).mono ?_
  rintro e w' ⟨g', r, u, h', rfl, ⟨rfl, rfl⟩, _, _, hvr, _, hinv⟩
  simp only [VR] at hvr
  subst hvr
  exact ⟨rfl, hinv.below⟩
end Go.Proofs.YtibchilpaaiecaaGreatDoor.M
/- A call whose new boxes come in an order that is drawn: all that it may answer, walked on. -/
set_option linter.all false
namespace Go.Proofs.YtibchilpaaiecaaGreatDoor.M
open Go.RowKit
theorem W_assoc {P : Program} {a b c : CC} {σ : List AV} {h : AH} {Q : Ex → List AV → AH → Prop} : W P (.seq (.seq a b) c) σ h Q = W P (.seq a (.seq b c)) σ h Q := by
  simp only [W]
def Kq (P : Program) (b : CC) (Q : Ex → List AV → AH → Prop) : Ex → List AV → AH → Prop
  | .normal, σ, h => W P b σ h Q
  | .exit i, σ, h => Q (.exit i) σ h
  | .ret, σ, h => Q .ret σ h
section
variable {P : Program} {b : CC} {Q : Ex → List AV → AH → Prop} {σ : List AV} {h : AH}
theorem kq_n : Kq P b Q .normal σ h = W P b σ h Q := rfl
theorem kq_e {i : Nat} : Kq P b Q (.exit i) σ h = Q (.exit i) σ h := rfl
theorem kq_r : Kq P b Q .ret σ h = Q .ret σ h := rfl
@[congr] theorem g_kq {e : Ex} {σ' : List AV} (h1 : σ = σ') : Kq P b Q e σ h = Kq P b Q e σ' h := by rw [h1]
@[congr] theorem g_W {σ' : List AV} (h1 : σ = σ') : W P b σ h Q = W P b σ' h Q := by rw [h1]
theorem W_pre {T : Tbl} (hT : ∀ f d, T f = some d → OkDef P f d) {a : CC} (hd : dv T a σ h (Kq P b Q)) : W P (.seq a b) σ h Q :=
  dv_sound hT a σ h _ _ (fun e σ h hq => by cases e <;> exact hq) hd
theorem Wops_app : ∀ (l r : List CO) (σ : List AV) (h : AH) (K : List AV → AH → Prop), Wops P (l ++ r) σ h K = Wops P l σ h (fun σ' h' => Wops P r σ' h' K)
  | [], r, σ, h, K => rfl
  | o :: l, r, σ, h, K => by
    show Wg P o σ h _ = Wg P o σ h _
    congr 1
    funext σ' h'
    exact Wops_app l r σ' h' K
theorem W_call {T : Tbl} (hT : ∀ f d, T f = some d → OkDef P f d) {l r : List CO} {d : Nat} {f : FuncId} {xs : List Opd} {σ1 : List AV} {h1 : AH} (hl : dops T l σ h = some (σ1, h1))
    (hc : CallW P f (shL (xs.map (evalO σ1))) h1 (fun v h2 => ∃ s, dops T r (putA σ1 (some d) v) h2 = some s ∧ Q .normal s.1 s.2)) : W P (.region (l ++ ⟨some d, .call f xs, none⟩ :: r)) σ h Q := by
  show Wops P _ σ h _
  rw [Wops_app]
  obtain ⟨n, hn⟩ : ∃ n, xops T (ev T n) l σ h = some (σ1, h1) := fin_ops l σ h _ hl
  refine xops_sound hT (ev_sound hT n) hn ?_
  show Wg P ⟨some d, .call f xs, none⟩ σ1 h1 (fun σ' h' => Wops P r σ' h' (Q .normal))
  show Wop P (.call f xs) (some d) σ1 h1 (fun σ' h' => Wops P r σ' h' (Q .normal))
  unfold Wop Wu
  simp only [show isCall (.call f xs) = true from rfl, if_true]
  refine ⟨f, _, false, rfl, hc.mono fun v h2 ⟨s, hs, hq⟩ => ?_⟩
  rw [putL_put]
  obtain ⟨n2, hn2⟩ : ∃ n, xops T (ev T n) r (putA σ1 (some d) v) h2 = some s := fin_ops r _ _ _ hs
  exact xops_sound hT (ev_sound hT n2) hn2 hq
end
attribute [go_sem] kq_n kq_e kq_r
end Go.Proofs.YtibchilpaaiecaaGreatDoor.M
