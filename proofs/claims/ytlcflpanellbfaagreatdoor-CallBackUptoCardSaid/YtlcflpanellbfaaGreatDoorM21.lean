/- The rounds, computed: what a call on known inputs comes to, found by evaluation. -/
import Derived.Test.YtlcflpanellbfaaGreatDoorM20
set_option linter.all false
namespace Go.Proofs.YtlcflpanellbfaaGreatDoor.M
open Go.RowKit

def gcC (h : AH) (r : AV) (h' : AH) : Option (AV × AH) :=
  if h'.length ≤ h.length ∨ h.length < r.mr then some (r, h')
  else if (h'.take h.length).all (fun b => Nat.ble (mrB b) h.length) then some (r, h'.take h.length) else none
theorem gcC_ok {h h' : AH} {r : AV} {x : AV × AH} (hx : gcC h r h' = some x) : gc h r h' = some x := by
  unfold gcC at hx
  unfold gc
  by_cases hc : h'.length ≤ h.length ∨ h.length < r.mr
  · rw [if_pos hc] at hx ⊢; exact hx
  · rw [if_neg hc] at hx ⊢
    split at hx <;> cases hx
    rename_i hall
    rw [if_pos]
    intro i hi
    right
    have hlen : i < h'.length := by omega
    refine ⟨h'[i], by simp [hlen], ?_⟩
    have := List.all_eq_true.1 hall h'[i] (by
      rw [List.mem_iff_getElem?]
      exact ⟨i, by rw [List.getElem?_take, if_pos hi]; simp [hlen]⟩)
    exact Nat.le_of_ble_eq_true this

def binC (op : BinOp) (x y : AV) : Option AV :=
  match x, y, op with
  | .str a, .str b, .eql => some (.bool (a.data.toList == b.data.toList))
  | .str a, .str b, .neq => some (.bool (!(a.data.toList == b.data.toList)))
  | .str a, .str b, .lss => some (.bool (Op.bytesLess a.data.toList b.data.toList))
  | .str a, .str b, .leq => some (.bool (Op.bytesLess a.data.toList b.data.toList || a.data.toList == b.data.toList))
  | .str a, .str b, .gtr => some (.bool (!(Op.bytesLess a.data.toList b.data.toList || a.data.toList == b.data.toList)))
  | .str a, .str b, .geq => some (.bool (!Op.bytesLess a.data.toList b.data.toList))
  | x, y, op => binV op x y
theorem binC_eq (op : BinOp) (x y : AV) : binC op x y = binV op x y := by
  have ht : ∀ a : ByteArray, a.data.toList = a.toList := fun a => (Go.ByteArray.toList_eq a).symm
  unfold binC
  split <;> simp only [binV, ht]
def xopC (op : COp) (d : Option Nat) (ev : Opd → AV) (h : AH) : Option (Up × AH) :=
  match op with
  | .bin op x y => val d h (binC op (ev x) (ev y))
  | op => xop op d ev h
theorem xopC_eq (op : COp) (d : Option Nat) (ev : Opd → AV) (h : AH) : xopC op d ev h = xop op d ev h := by
  unfold xopC
  split
  · rw [binC_eq]; rfl
  · rfl

def finC (rs : List RV) (h0 : AH) : St → Option (AV × AH)
  | (.exit _, _, _) => none
  | (_, σ, h) => (retV h rs σ).bind fun vs => gcC h0 (oneOf vs) h
def callC (T : Tbl) (rec : Rec) (f : FuncId) (args : List AV) (h : AH) : Option (AV × AH) :=
  match T f with
  | some (.code cf) => (rec cf.body (args ++ List.replicate (cf.ntmps - args.length) undefA) h).bind (finC cf.res h)
  | some (.prim p) => p args h
  | _ => none
def effC (T : Tbl) (rec : Rec) (op : COp) (d : Option Nat) (σ : List AV) (h : AH) : Option (List AV × AH) :=
  match callOf op (evalO σ) with
  | some (f, args, false) => (callC T rec f args h).map fun r => (putA σ d r.1, r.2)
  | some (f, args, true) => if mrL args = 0 then (callC T rec f args []).bind (finP σ d h) else none
  | none => (xopC op d (evalO σ) h).map fun r => (putL σ r.1, r.2)
def opsC (T : Tbl) (rec : Rec) : List CO → List AV → AH → Option (List AV × AH)
  | [], σ, h => some (σ, h)
  | o :: r, σ, h => (effC T rec (effOp o σ) o.dst σ h).bind fun s => opsC T rec r s.1 s.2
def opsDC (T : Tbl) (rec : Rec) : List Nat → List (AH × AH) → List (CO × Bool) → List AV → AH → Option (List AV × AH)
  | S, E, [], σ, h => if S.isEmpty || E.isEmpty then some (σ, h) else none
  | S, E, p :: r, σ, h => (effC T rec (effOp p.1 σ) p.1.dst σ h).bind fun s => opsDC T rec (addS p σ S) (addE p h s.2 E) r s.1 s.2
def stepC (T : Tbl) (rec : Rec) : Rec
  | .skip, σ, h => some (.normal, σ, h)
  | .region ops, σ, h => (opsC T rec ops σ h).map fun s => (.normal, s)
  | .dregion ops, σ, h => (opsDC T rec [] [] ops σ h).map fun s => (.normal, s)
  | .seq a b, σ, h => (rec a σ h).bind fun r => match r.1 with | .normal => rec b r.2.1 r.2.2 | _ => some r
  | .cond c x y, σ, h => match evalO σ c with | .bool true => rec x σ h | .bool false => rec y σ h | _ => none
  | .block id c, σ, h => (rec c σ h).map (outB id)
  | .loop c, σ, h => (rec c σ h).bind fun r => match r.1 with | .normal => rec (.loop c) r.2.1 r.2.2 | _ => some r
  | .exit id, σ, h => some (.exit id, σ, h)
  | .ret, σ, h => some (.ret, σ, h)
  | .kill ws c, σ, h => rec c (kills ws σ) h
  | .both _ _, _, _ => none
  | .rsplit g p asg body, σ, h => rsS T (rec asg) (rec body) p σ h (evalO σ g)
def evC (T : Tbl) : Nat → Rec
  | 0 => fun _ _ _ => none
  | n + 1 => stepC T (evC T n)

section
variable {T : Tbl} {r1 r2 : Rec}
def Le (a b : Rec) : Prop := ∀ c σ h r, a c σ h = some r → b c σ h = some r
theorem callC_ok (hr : Le r1 r2) {f : FuncId} {args : List AV} {h : AH} {x : AV × AH} (hx : callC T r1 f args h = some x) : callF T r2 f args h = some x := by
  unfold callC at hx; unfold callF
  cases hT : T f with
  | none => rw [hT] at hx; exact hx
  | some d =>
    rw [hT] at hx
    cases d with
    | prim p => exact hx
    | split => exact hx
    | code cf =>
      simp only [Option.bind_eq_some_iff] at hx ⊢
      obtain ⟨s, h1, h2⟩ := hx
      refine ⟨s, hr _ _ _ _ h1, ?_⟩
      obtain ⟨e, σ, h'⟩ := s
      cases e <;> simp only [finC, finF, Option.bind_eq_some_iff] at h2 ⊢
      · obtain ⟨vs, q1, q2⟩ := h2; exact ⟨vs, q1, gcC_ok q2⟩
      · cases h2
      · obtain ⟨vs, q1, q2⟩ := h2; exact ⟨vs, q1, gcC_ok q2⟩
theorem effC_ok (hr : Le r1 r2) {op : COp} {d : Option Nat} {σ : List AV} {h : AH} {x : List AV × AH} (hx : effC T r1 op d σ h = some x) : xeff T r2 op d σ h = some x := by
  unfold effC at hx; unfold xeff
  cases hc : callOf op (evalO σ) with
  | none => rw [hc] at hx; simp only [xopC_eq] at hx; exact hx
  | some p =>
    rw [hc] at hx
    obtain ⟨f, args, pu⟩ := p
    cases pu
    · simp only [Option.map_eq_some_iff] at hx ⊢
      obtain ⟨y, q1, q2⟩ := hx; exact ⟨y, callC_ok hr q1, q2⟩
    · simp only at hx ⊢
      split at hx <;> try (cases hx; done)
      rename_i hm
      rw [if_pos hm]
      simp only [Option.bind_eq_some_iff] at hx ⊢
      obtain ⟨y, q1, q2⟩ := hx; exact ⟨y, callC_ok hr q1, q2⟩
theorem opsC_ok (hr : Le r1 r2) : ∀ {l : List CO} {σ : List AV} {h : AH} {x : List AV × AH}, opsC T r1 l σ h = some x → xops T r2 l σ h = some x
  | [], σ, h, x, hx => hx
  | o :: l, σ, h, x, hx => by
    simp only [opsC, xops, Option.bind_eq_some_iff] at hx ⊢
    obtain ⟨s, q1, q2⟩ := hx; exact ⟨s, effC_ok hr q1, opsC_ok hr q2⟩
theorem opsDC_ok (hr : Le r1 r2) : ∀ {l : List (CO × Bool)} {S : List Nat} {E : List (AH × AH)} {σ : List AV} {h : AH} {x : List AV × AH}, opsDC T r1 S E l σ h = some x → xopsD T r2 S E l σ h = some x
  | [], S, E, σ, h, x, hx => by
    simp only [opsDC, xopsD] at hx ⊢
    split at hx <;> cases hx
    rename_i hs
    rw [if_pos]
    intro e he id hid
    simp only [Bool.or_eq_true, List.isEmpty_iff] at hs
    rcases hs with rfl | rfl
    · cases hid
    · cases he
  | p :: l, S, E, σ, h, x, hx => by
    simp only [opsDC, xopsD, Option.bind_eq_some_iff] at hx ⊢
    obtain ⟨s, q1, q2⟩ := hx; exact ⟨s, effC_ok hr q1, opsDC_ok hr q2⟩
theorem rsV_le (hr : Le r1 r2) {asg body : CC} {p ps pp pv : Nat} {c : UInt8} {σ : List AV} {xs : List (List UInt8 × List UInt8)} {h : AH} {x : Ex × AH} (hx : rsV (r1 asg) (r1 body) p ps pp pv c σ xs h = some x) : rsV (r2 asg) (r2 body) p ps pp pv c σ xs h = some x :=
  mono_rsV asg body p ps pp pv c σ xs h r1 r2 hr x hx
theorem stepC_ok (hr : Le r1 r2) : Le (stepC T r1) (step T r2) := by
  intro c σ h r hx
  cases c with
  | skip => exact hx
  | region ops =>
    simp only [stepC, step, Option.map_eq_some_iff] at hx ⊢
    obtain ⟨s, q1, q2⟩ := hx; exact ⟨s, opsC_ok hr q1, q2⟩
  | dregion ops =>
    simp only [stepC, step, Option.map_eq_some_iff] at hx ⊢
    obtain ⟨s, q1, q2⟩ := hx; exact ⟨s, opsDC_ok hr q1, q2⟩
  | seq a b =>
    simp only [stepC, step, Option.bind_eq_some_iff] at hx ⊢
    obtain ⟨s, q1, q2⟩ := hx
    refine ⟨s, hr _ _ _ _ q1, ?_⟩
    obtain ⟨e, σ1, h1⟩ := s
    cases e <;> simp only at q2 ⊢ <;> first | exact hr _ _ _ _ q2 | exact q2
  | cond c a b =>
    simp only [stepC, step] at hx ⊢
    cases hc : evalO σ c <;> rw [hc] at hx <;> try (cases hx; done)
    rename_i v
    cases v <;> exact hr _ _ _ _ hx
  | block i c =>
    simp only [stepC, step, Option.map_eq_some_iff] at hx ⊢
    obtain ⟨s, q1, q2⟩ := hx; exact ⟨s, hr _ _ _ _ q1, q2⟩
  | loop c =>
    simp only [stepC, step, Option.bind_eq_some_iff] at hx ⊢
    obtain ⟨s, q1, q2⟩ := hx
    refine ⟨s, hr _ _ _ _ q1, ?_⟩
    obtain ⟨e, σ1, h1⟩ := s
    cases e <;> simp only at q2 ⊢ <;> first | exact hr _ _ _ _ q2 | exact q2
  | exit i => exact hx
  | ret => exact hx
  | kill ws c => exact hr _ _ _ _ hx
  | rsplit g p asg body => exact mono_rsS asg body p σ h (evalO σ g) r1 r2 hr r hx
  | both a b => cases hx
theorem evC_ok : ∀ n, Le (evC T n) (ev T n)
  | 0 => fun _ _ _ _ h => by cases h
  | n + 1 => stepC_ok (evC_ok n)
/-- A call on known inputs: computed. -/
theorem run_of {n : Nat} {f : FuncId} {args : List AV} {h : AH} {x : AV × AH} (hx : callC T (evC T n) f args h = some x) : run T f args h = some x :=
  callC_ok (fun c σ h r hc => den_of (evC_ok n c σ h r hc)) hx
end
end Go.Proofs.YtlcflpanellbfaaGreatDoor.M
