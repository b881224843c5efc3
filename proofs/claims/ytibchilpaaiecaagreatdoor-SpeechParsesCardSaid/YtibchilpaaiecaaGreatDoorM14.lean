/- Code and functions: what is compiled speaks of the machine. -/
import Derived.Test.YtibchilpaaiecaaGreatDoorM13
import Derived.Orders
import Derived.RangeFuncWrites
import Derived.RangeFuncLeaves
import Derived.RangeFuncCalls
set_option linter.unusedVariables false
set_option linter.unusedSimpArgs false
namespace Go.Proofs.YtibchilpaaiecaaGreatDoor.M
open Go.RowKit
def WAny (P : Program) (S : List Nat) (ops : Array Oper) (cos : List (CO × Bool)) : Nat → Array Bool → List AV → AH → (List AV → AH → Prop) → Prop
 | 0, listed, σ, h, K => Region.ready .any ops listed = [] ∧ K σ h
 | f + 1, listed, σ, h, K => (Region.ready .any ops listed = [] → K σ h) ∧
   ∀ i ∈ Region.ready .any ops listed, ∃ p, cos[i]? = some p ∧ WgD P S p.2 p.1 σ h (fun σ' h' => WAny P S ops cos f (listed.setIfInBounds i true) σ' h' K)
def dirS (o : Oper) : List Nat := (o.after.toList.filter (Region.binds .any ·)).map (·.on)
def befL (ops : List Oper) : List (List Nat) := ops.foldl (fun acc o => acc ++ [(dirS o ++ (dirS o).flatMap fun d => acc.getD d []).eraseDups]) []
def isE (op : COp) : Bool := !isQ op && !isL op && !isP op
def I2 (bef : List (List Nat)) (l : List CO) (i : Nat) (o : CO) : Bool :=
 (l.zipIdx).any fun (q, j) => j != i && !(bef.getD j []).contains i && !(bef.getD i []).contains j && ((isL o.op && isE q.op) || (isE o.op && isL q.op))
def wO (bef : List (List Nat)) (l : List CO) : List (CO × Bool) := l.zip ((l.zipIdx).map fun (o, i) => I2 bef l i o)
def yB (ops : Array Oper) (bef : List (List Nat)) (cos : List (CO × Bool)) : Nat → Nat → Array Bool → Bool
 | 0, k, listed => (Region.ready .any ops listed).isEmpty
 | n + 1, k, listed => (Region.ready .any ops listed).contains k &&
   (match cos[k]? with
   | some p => (cos.zipIdx).all fun (q, j) => j == k || listed.getD j true || (bef.getD j []).contains k || vI p q
   | none => false) && yB ops bef cos n (k + 1) (listed.setIfInBounds k true)
inductive CC where
 | skip
 | region (ops : List CO)
 | dregion (ops : List (CO × Bool))
 | seq (a b : CC)
 | cond (c : Opd) (x y : CC)
 | block (id : Nat) (c : CC)
 | loop (c : CC)
 | exit (id : Nat)
 | ret
 | kill (ws : List Nat) (c : CC)
 | rsplit (g : Opd) (p : Nat) (asg body : CC)
 | both (a b : CC)
 deriving Inhabited
def dD : List Nat → List AV → List AV
 | [], σ => σ
 | i :: ws, σ => dD ws (σ.set i .any)
def vK (ws : List Nat) (c : CC) : CC := match ws with | [] => c | _ => .kill ws c
abbrev HL := List (List Nat × List Nat)
def popH : HL → (List Nat × List Nat) × HL
 | [] => (([], []), [])
 | x :: r => (x, r)
inductive Ex where
 | normal
 | exit (id : Nat)
 | ret
 deriving DecidableEq
def Ex.fin : Ex → Prop | .exit _ => False | _ => True
def EY (bef : List (List Nat)) (cos : List (CO × Bool)) (listed : Array Bool) (k : Nat) : Bool :=
 match cos[k]? with
 | some p => (cos.zipIdx).all fun (q, j) => j == k || listed.getD j true || (bef.getD j []).contains k || vI p q
 | none => false
def opC (cos : List (CO × Bool)) (k : Nat) (t : Option CC) : Option CC :=
 match cos[k]?, t with
 | some p, some t => some (.seq (.region [p.1]) t)
 | _, _ => none
def CS (f : Nat → Option CC) : List Nat → Option CC
 | [] => none
 | [k] => f k
 | k :: j :: r => match f k, CS f (j :: r) with
  | some a, some b => some (.both a b)
  | _, _ => none
def vL (ops : Array Oper) (bef : List (List Nat)) (cos : List (CO × Bool)) : Nat → Array Bool → Option CC
 | 0, listed => if (Region.ready .any ops listed).isEmpty then some .skip else none
 | n + 1, listed => match (Region.ready .any ops listed).find? (EY bef cos listed) with
  | some k => opC cos k (vL ops bef cos n (listed.setIfInBounds k true))
  | none => CS (fun k => opC cos k (vL ops bef cos n (listed.setIfInBounds k true))) (Region.ready .any ops listed)
def I3 (P : Program) (ops : Array Oper) (l : List CO) : Option CC :=
 let bef := befL ops.toList
 let cos := wO bef l
 if P.follows .mixedOrders && (l.length == ops.size) && yB ops bef cos ops.size 0 (Array.replicate ops.size false) then some (if cos.all fun p => !p.2 then .region l else .dregion cos)
 else if P.follows .mixedOrders && (l.length == ops.size) then vL ops bef (l.map fun o => (o, false)) ops.size (Array.replicate ops.size false) else none
def noRF : Code → Bool
 | .seq a b | .cond _ a b => noRF a && noRF b
 | .block _ c | .loop c => noRF c
 | .rangeFunc .. => false
 | _ => true
def iV : Code → Bool
 | .region _ _ d => !d
 | .seq a b | .cond _ a b => iV a && iV b
 | .block _ c | .loop c => iV c
 | _ => true
def spine : Code → Bool
 | .seq a b => spine a && spine b
 | .block _ c => spine c
 | .rangeFunc _ _ a b => noRF a && noRF b && iV a && iV b
 | c => noRF c
def au (c : UInt8) : List UInt8 → List (List UInt8 × List UInt8)
 | [] => [([], [])]
 | b :: r => if b = c then ([], b :: r) :: au c r else match au c r with | (f, q) :: fs => (b :: f, b :: q) :: fs | [] => []
structure ItCells (W : World) (bp bs bv : Nat) (c : UInt8) (r : List UInt8) : Prop where
 p : W.cell? ⟨bp, 0, none⟩ = some (.string ⟨#[c]⟩)
 s : W.cell? ⟨bs, 0, none⟩ = some (.string ⟨r.toArray⟩)
 v : W.cell? ⟨bv, 0, none⟩ = some (.int .i64 0)
 f : W.frozen? ⟨bs, 0, none⟩ = false
def rR (P : Program) (k : FuncId) : Prop :=
 (∀ args w, (callFunc k args).run P w = .ok (.enter k args) w) ∧
 ∀ (l bp bs bv : Nat) (c : UInt8) (A B : List (List UInt8 × List UInt8) → World → Prop) (Jx : World → Prop), bs ≠ bp → bs ≠ bv →
  (∀ x r xs W, A ((x, r) :: xs) W → ItCells W bp bs bv c r ∧ YieldAt Fence.wide 0 P l #[.string ⟨x.toArray⟩] W (fun e W' => (e = .returned (.bool true) ∧ B ((x, r) :: xs) W') ∨ (e = .returned (.bool false) ∧ Jx W'))) →
  (∀ x r xs W, B ((x, r) :: xs) W → ItCells W bp bs bv c r ∧ ∀ x' r' xs', xs = (x', r') :: xs' → A xs (W.setCell ⟨bs, 0, none⟩ (.string ⟨r'.toArray⟩))) →
  ∀ (s : List UInt8) (W : World), s.length ≤ 4611686018427387904 → A (au c s) W →
   CallsIn Fence.wide 0 P k #[.func (.yield l) #[] #[], .pointer (some ⟨bp, 0, none⟩), .pointer (some ⟨bs, 0, none⟩), .pointer (some ⟨bv, 0, none⟩)] W (fun e W' => (∃ v, e = .returned v) ∧ ((∃ x r, B [(x, r)] W') ∨ Jx W'))
def dF (r : List UInt8) : Option Bx → Bool | some (.cells [.str s]) => s.data.toList == r | _ => false
def fa : Option Bx → Bool | some (.cells [.int .i64 n]) => n == 0 | _ => false
def WRs (Wa Wb : List AV → AH → (Ex → List AV → AH → Prop) → Prop) (p ps pp pv : Nat) (c : UInt8) (σ : List AV) : List (List UInt8 × List UInt8) → AH → (Ex → AH → Prop) → Prop
 | [], h, Q => Q .normal h
 | (x, r) :: xs, h, Q => Wa ((shL σ).set p (.str ⟨x.toArray⟩)) h fun e σ1 h1 => e = .normal ∧ Wb σ1 h1 fun e h2σ h2 => match e with
  | .normal => dF r h2[ps]? = true ∧ dF [c] h2[pp]? = true ∧ fa h2[pv]? = true ∧ (match xs with | [] => Q .normal h2 | (_, r') :: _ => WRs Wa Wb p ps pp pv c σ xs (h2.set ps (.cells [.str ⟨r'.toArray⟩])) Q)
  | e => Q e h2
def cA (P : Program) : Code → HL → Option (CC × HL)
 | .skip, hs => some (.skip, hs)
 | .region _ ops false, hs => match eY P ops (popH hs).1.2 0 ops.toList with | some l => some (vK (popH hs).1.1 (.region l), (popH hs).2) | none => none
 | .region _ ops true, hs => match eY P ops (popH hs).1.2 0 ops.toList with
  | some l => match I3 P ops l with | some c => some (vK (popH hs).1.1 c, (popH hs).2) | none => none
  | none => none
 | .seq a b, hs => match cA P a hs with
  | some (a', hs1) => match cA P b hs1 with | some (b', hs2) => some (.seq a' b', hs2) | none => none
  | none => none
 | .cond c x y, hs => match aB c, cA P x hs with
  | some c', some (x', hs1) => match cA P y hs1 with | some (y', hs2) => some (.cond c' x' y', hs2) | none => none
  | _, _ => none
 | .block id c, hs => match cA P c hs with | some (c', hs1) => some (.block id c', hs1) | none => none
 | .loop c, hs => match cA P c (popH hs).2 with | some (c', hs1) => some (vK (popH hs).1.1 (.loop (vK (popH hs).1.1 c')), hs1) | none => none
 | .rangeFunc g ps asg body, hs => match aB g, ps.toList, cA P asg hs with
  | some g', [p], some (a', hs1) => match cA P body hs1 with | some (b', hs2) => some (.rsplit g' p a' b', hs2) | none => none
  | _, _, _ => none
 | .refuse _, hs => some (.region [⟨none, .stuck, none⟩], hs)
 | .exit id, hs => some (vK (popH hs).1.1 (.exit id), (popH hs).2)
 | .ret, hs => some (vK (popH hs).1.1 .ret, (popH hs).2)
 | _, _ => none
def W (P : Program) : CC → List AV → AH → (Ex → List AV → AH → Prop) → Prop
 | .skip, σ, h, Q => Q .normal σ h
 | .region ops, σ, h, Q => Wops P ops σ h (Q .normal)
 | .dregion ops, σ, h, Q => ∃ S, vH P S ops σ h (Q .normal)
 | .seq a b, σ, h, Q => W P a σ h (fun e σ' h' => match e with | .normal => W P b σ' h' Q | .exit i => Q (.exit i) σ' h' | .ret => Q .ret σ' h')
 | .cond c x y, σ, h, Q => match ag σ c with | .bool b => (b = true → W P x σ h Q) ∧ (b = false → W P y σ h Q) | _ => False
 | .block id c, σ, h, Q => W P c σ h (fun e σ' h' => match e with | .normal => Q .normal σ' h' | .exit j => if j = id then Q .normal σ' h' else Q (.exit j) σ' h' | .ret => Q .ret σ' h')
 | .loop c, σ, h, Q => ∃ (I : List AV → AH → Nat → Prop) (m : Nat), I σ h m ∧ ∀ σ h m, I σ h m → W P c σ h (fun e σ' h' => match e with | .normal => ∃ m', m' < m ∧ I σ' h' m' | .exit i => Q (.exit i) σ' h' | .ret => Q .ret σ' h')
 | .exit id, σ, h, Q => Q (.exit id) σ h
 | .ret, σ, h, Q => Q .ret σ h
 | .kill ws c, σ, h, Q => W P c (dD ws σ) h Q
 | .both a b, σ, h, Q => W P a σ h Q ∧ W P b σ h Q
 | .rsplit g p asg body, σ, h, Q => ∃ k pp ps pv c s, ag σ g = .fn (.func k) [] [.box pp 0, .box ps 0, .box pv 0] ∧ rR P k ∧ ps ≠ pp ∧ ps ≠ pv ∧ dF [c] h[pp]? = true ∧ dF s h[ps]? = true ∧ fa h[pv]? = true ∧ s.length ≤ 4611686018427387904 ∧
   WRs (W P asg) (W P body) p ps pp pv c σ (au c s) h (fun e h' => Q e σ h')
def Ex.out : Ex → Exit
 | .normal => .normal
 | .exit i => .exit i
 | .ret => .ret
section
variable {P : Program} {w0 w : World} {ds : List Deferred} {g : Gh} {h : AH} {n : Nat → Nat} {σ : List AV} {a : Act}
def Post (ds : List Deferred) (w0 : World) (g : Gh) (n : Nat → Nat) (w : World) (Q : Ex → List AV → AH → Prop) (e : Exit) (a' : Act) (w' : World) : Prop :=
 ∃ x g' σ' h', e = x.out ∧ Q x σ' h' ∧ g.le g' ∧ Keep n g w g' w' ∧ SR ds w0 g' n σ' h' a' w'
theorem Post.trans {g' : Gh} {w' : World} {Q : Ex → List AV → AH → Prop} {e : Exit} {a'' : Act} {w'' : World} (hg : g.le g') (hk : Keep n g w g' w') (hp : Post ds w0 g' n w' Q e a'' w'') : Post ds w0 g n w Q e a'' w'' := by
 obtain ⟨x, g2, σ2, h2, e1, q, l, k, s⟩ := hp
 exact ⟨x, g2, σ2, h2, e1, q, hg.trans l, hk.trans k, s⟩
theorem Post.mono {Q Q' : Ex → List AV → AH → Prop} {e : Exit} {a' : Act} {w' : World} (hq : ∀ x σ h, Q x σ h → Q' x σ h) (hp : Post ds w0 g n w Q e a' w') : Post ds w0 g n w Q' e a' w' := by
 obtain ⟨x, g2, σ2, h2, e1, q, l, k, s⟩ := hp
 exact ⟨x, g2, σ2, h2, e1, hq _ _ _ q, l, k, s⟩
theorem o0 {α : Type} {l : List α} {j : Nat} {d : α} (h : l.length ≤ j) : l.getD j d = d := by simp [List.getD, List.getElem?_eq_none h]
def Down (ops : Array Oper) (listed : Array Bool) : Prop := ∀ (j : Nat) (o : Oper), listed.getD j false = true → ops[j]? = some o → ∀ d ∈ dirS o, listed.getD d false = true
theorem tN {ops : Array Oper} {listed : Array Bool} (hd : Down ops listed) : ∀ (l : List Oper) (acc : List (List Nat)) (k : Nat), (∀ j, l[j]? = ops[k + j]?) → acc.length = k →
  (∀ j < k, listed.getD j false = true → ∀ x ∈ acc.getD j [], listed.getD x false = true) → (∀ j < k, ∀ o, ops[j]? = some o → (∀ d ∈ dirS o, listed.getD d false = true) → ∀ x ∈ acc.getD j [], listed.getD x false = true) →
  ∀ j, j < k + l.length → ∀ o, ops[j]? = some o → (∀ d ∈ dirS o, listed.getD d false = true) → ∀ x ∈ (l.foldl (fun acc o => acc ++ [(dirS o ++ (dirS o).flatMap fun d => acc.getD d []).eraseDups]) acc).getD j [], listed.getD x false = true
 | [], acc, k, hl, hk, h1, h2, j, hj, o, ho, hdir, x, hx => h2 j (by simpa using hj) o ho hdir x hx
 | o :: l, acc, k, hl, hk, h1, h2, j, hj, o', ho', hdir', x, hx => by
  have h0 : ops[k]? = some o := by simpa using (hl 0).symm
  have new : (∀ d ∈ dirS o, listed.getD d false = true) → ∀ x ∈ (dirS o ++ (dirS o).flatMap fun d => acc.getD d []).eraseDups, listed.getD x false = true := by
   intro hdir x hx
   rw [List.mem_eraseDups] at hx
   rcases List.mem_append.1 hx with hx | hx
   ·exact hdir x hx
   ·obtain ⟨d, hd1, hd2⟩ := List.mem_flatMap.1 hx
    rcases Nat.lt_or_ge d k with hlt | hge
    ·exact h1 d hlt (hdir d hd1) x hd2
    ·rw [o0 (by omega)] at hd2; cases hd2
  have get : ∀ j, (acc ++ [(dirS o ++ (dirS o).flatMap fun d => acc.getD d []).eraseDups]).getD j [] = if j = k then (dirS o ++ (dirS o).flatMap fun d => acc.getD d []).eraseDups else acc.getD j [] := by
   intro j
   by_cases hjk : j = k
   ·subst hjk; simp [List.getD, ← hk]
   ·rw [if_neg hjk]
    rcases Nat.lt_or_ge j k with hlt | hge
    ·simp [List.getD, List.getElem?_append_left (show j < acc.length by omega)]
    ·rw [o0 (by simp; omega), o0 (by omega)]
  refine tN hd l _ (k + 1) (fun i => by have := hl (i + 1); simpa [Nat.add_assoc, Nat.add_comm 1 i] using this) (by simp [hk]) ?_ ?_ j (by simp at hj ⊢; omega) o' ho' hdir' x hx
  ·intro i hi hli y hy
   rw [get] at hy
   by_cases hik : i = k
   ·subst hik
    rw [if_pos rfl] at hy
    exact new (hd _ _ hli h0) y hy
   ·rw [if_neg hik] at hy; exact h1 i (by omega) hli y hy
  ·intro i hi oi hoi hdi y hy
   rw [get] at hy
   by_cases hik : i = k
   ·subst hik
    rw [if_pos rfl] at hy
    rw [h0] at hoi; cases hoi
    exact new hdi y hy
   ·rw [if_neg hik] at hy; exact h2 i (by omega) oi hoi hdi y hy
theorem yC {ops : Array Oper} {listed : Array Bool} (hd : Down ops listed) {j : Nat} (hj : j ∈ Region.ready .any ops listed) : ∀ x ∈ (befL ops.toList).getD j [], listed.getD x false = true := by
 obtain ⟨h0, o, ho, hall⟩ := mem_ready.1 hj
 have hlt : j < ops.size := (Array.getElem?_eq_some_iff.1 ho).1
 refine tN hd ops.toList [] 0 (by simp) rfl (fun _ h => absurd h (Nat.not_lt_zero _)) (fun _ h => absurd h (Nat.not_lt_zero _)) j (by simpa using hlt) o ho ?_
 intro d hdd
 unfold dirS at hdd
 obtain ⟨e, he, rfl⟩ := List.mem_map.1 hdd
 obtain ⟨he1, he2⟩ := List.mem_filter.1 he
 exact hall e (by simpa using he1) he2
theorem Down.add {ops : Array Oper} {listed : Array Bool} (hd : Down ops listed) {i : Nat} (hi : i ∈ Region.ready .any ops listed) : Down ops (listed.setIfInBounds i true) := by
 intro j o hj ho d hdd
 by_cases hji : i = j
 ·subst hji
  obtain ⟨_, o', ho', hall⟩ := mem_ready.1 hi
  rw [ho] at ho'; cases ho'
  unfold dirS at hdd
  obtain ⟨e, he, rfl⟩ := List.mem_map.1 hdd
  obtain ⟨he1, he2⟩ := List.mem_filter.1 he
  exact getD_set_true (hall e (by simpa using he1) he2)
 ·rw [getD_set_ne false hji] at hj
  exact getD_set_true (hd j o hj ho d hdd)
theorem mI {S : List Nat} {f : Bool} {o : CO} {K K' : List AV → AH → Prop} (hk : ∀ σ h, K σ h → K' σ h) (hw : WgD P S f o σ h K) : WgD P S f o σ h K' := by
 rw [lW] at hw ⊢
 exact ⟨hw.1, iL (fun u h' x => ⟨x.1, hk _ _ x.2⟩) hw.2⟩
theorem rS {listed : Array Bool} {i : Nat} (h : listed.getD i true = false) : listed.getD i false = false := by
 rcases Nat.lt_or_ge i listed.size with h' | h'
 ·simp [h'] at h ⊢; exact h
 ·simp [Array.getElem?_eq_none h'] at h
theorem qN {S : List Nat} {ops : Array Oper} {cos : List (CO × Bool)} {i : Nat} {p : CO × Bool} (hp : cos[i]? = some p) {K : List AV → AH → Prop} : ∀ (fuel : Nat) (listed : Array Bool) (σ : List AV) (h : AH), Down ops listed →
  (∀ j q, cos[j]? = some q → j ≠ i → listed.getD j true = false → ((befL ops.toList).getD j []).contains i = false → vI p q = true) → i ∈ Region.ready .any ops listed →
  WgD P S p.2 p.1 σ h (fun σ' h' => WAny P S ops cos fuel (listed.setIfInBounds i true) σ' h' K) → WAny P S ops cos (fuel + 1) listed σ h K := by
 intro fuel
 induction fuel with
 | zero =>
  intro listed σ h hdn hfree hr H
  refine ⟨fun h0 => (by rw [h0] at hr; cases hr), fun j hj => ?_⟩
  by_cases hji : j = i
  ·subst hji; exact ⟨p, hp, H⟩
  ·have := ready_mono hj hji
   rw [lW] at H
   obtain ⟨u, h', _, hk⟩ := rN H.2
   rw [hk.1] at this
   cases this
 | succ fuel ih =>
  intro listed σ h hdn hfree hr H
  refine ⟨fun h0 => (by rw [h0] at hr; cases hr), fun j hj => ?_⟩
  by_cases hji : j = i
  ·subst hji; exact ⟨p, hp, H⟩
  ·have hi0 := rS (mem_ready.1 hr).1
   -- which operation is number j
   obtain ⟨q, hq⟩ : ∃ q, cos[j]? = some q := by
    rw [lW] at H
    obtain ⟨u, h', _, hk⟩ := rN H.2
    obtain ⟨q, hq, _⟩ := hk.2 j (ready_mono hj hji)
    exact ⟨q, hq⟩
   have hnb : ((befL ops.toList).getD j []).contains i = false := by
    cases e : ((befL ops.toList).getD j []).contains i with
    | false => rfl
    | true =>
     have := yC hdn hj i (by simpa using e)
     rw [hi0] at this; cases this
   have hcm := hfree j q hq hji (mem_ready.1 hj).1 hnb
   have H1 : WgD P S p.2 p.1 σ h (fun σ1 h1 => WgD P S q.2 q.1 σ1 h1 (fun σ2 h2 => WAny P S ops cos fuel ((listed.setIfInBounds i true).setIfInBounds j true) σ2 h2 K)) := by
    refine mI (fun σ1 h1 hk => ?_) H
    obtain ⟨q', hq', hw⟩ := hk.2 j (ready_mono hj hji)
    rw [hq] at hq'; cases hq'
    exact hw
   refine ⟨q, hq, mI (fun σ1 h1 hk => ?_) (swap hcm H1)⟩
   refine ih (listed.setIfInBounds j true) σ1 h1 (hdn.add hj) (fun k r hk' hki hun hno => ?_) (ready_mono hr (Ne.symm hji)) ?_
   ·refine hfree k r hk' hki ?_ hno
    by_cases hjk : j = k
    ·subst hjk; exact (mem_ready.1 hj).1
    ·rw [getD_set_ne true hjk] at hun; exact hun
   ·rw [Array.setIfInBounds_comm _ _ hji]
    exact hk
theorem wP {S : List Nat} {ops : Array Oper} {cos : List (CO × Bool)} {K : List AV → AH → Prop} : ∀ (l : List (CO × Bool)) (k : Nat) (listed : Array Bool) (σ : List AV) (h : AH), (∀ j, l[j]? = cos[k + j]?) → Down ops listed →
  yB ops (befL ops.toList) cos l.length k listed = true → vH P S l σ h K → WAny P S ops cos l.length listed σ h K
 | [], k, listed, σ, h, hl, hdn, hB, hw => ⟨by simpa [yB] using hB, hw⟩
 | p :: l, k, listed, σ, h, hl, hdn, hB, hw => by
  have h0 : cos[k]? = some p := by simpa using (hl 0).symm
  simp only [List.length_cons, yB, h0, Bool.and_eq_true] at hB
  obtain ⟨⟨hr, hf⟩, hB'⟩ := hB
  have hr' : k ∈ Region.ready .any ops listed := by simpa using hr
  refine qN h0 l.length listed σ h hdn ?_ hr' ?_
  ·intro j q hq hjk hun hno
   have := List.all_eq_true.1 hf (q, j) (by rw [List.mem_zipIdx_iff_getElem?]; exact hq)
   simp only [Bool.or_eq_true, beq_iff_eq] at this
   rcases this with ((h1 | h1) | h1) | h1
   ·exact absurd h1 hjk
   ·rw [hun] at h1; cases h1
   ·rw [hno] at h1; cases h1
   ·exact h1
  ·exact mI (fun σ' h' hk => wP l (k + 1) _ σ' h' (fun j => by have := hl (j + 1); simpa [Nat.add_assoc, Nat.add_comm 1 j] using this) (hdn.add hr') hB' hk) hw
theorem lX {ops : Array Oper} {mvs : List Nat} : ∀ {l : List Oper} {kk : Nat} {cos : List CO}, eY P ops mvs kk l = some cos → cos.length = l.length ∧ ∀ (i : Nat) (o : Oper), l[i]? = some o → ∃ op gd mv, oX P mv o.op = some op ∧ iS ops o.guard = some gd ∧ cos[i]? = some ⟨o.dst, op, gd⟩
 | [], kk, cos, hc => by simp only [eY, Option.some.injEq] at hc; subst hc; exact ⟨rfl, fun i o h => by simp at h⟩
 | o :: l, kk, cos, hc => by
  simp only [eY] at hc
  split at hc <;> cases hc
  rename_i op gd cos' h1 h2 h3
  obtain ⟨k1, k2⟩ := lX h3
  refine ⟨by simp [k1], fun i o' ho' => ?_⟩
  cases i with
  | zero => simp at ho'; subst ho'; exact ⟨op, gd, _, h1, h2, rfl⟩
  | succ i => obtain ⟨op', gd', mv, q1, q2, q3⟩ := k2 i o' (by simpa using ho'); exact ⟨op', gd', mv, q1, q2, by simpa using q3⟩
theorem CT {ops : Array Oper} {Q : Exit → Act → World → Prop} {K : List AV → AH → Prop} {KK : Act → World → Prop} {o : Oper} {op : COp} {gd : Option (Nat × Bool)} {mv : Bool} {i : Nat} (hi : ops[i]? = some o)
  (h1 : oX P mv o.op = some op) (h2 : iS ops o.guard = some gd) (hs : SR ds w0 g n σ h a w) (hk : Wg P ⟨o.dst, op, gd⟩ σ h K)
  (hQ : ∀ g' σ' h' a' w', K σ' h' → g.le g' → Keep n g w g' w' → SR ds w0 g' n σ' h' a' w' → KK a' w') : wpOp P ops Q i KK a w := by
 have hnext : ∀ a' w', bI ds w0 g n w K a' w' → KK a' w' := by
  rintro a' w' ⟨g', σ', h', q, lg, k, s⟩; exact hQ g' σ' h' a' w' q lg k s
 have run : Wop P op o.dst σ h K → o.wp P a w KK Q := fun hw => Oper.wp_mono hnext (iB (Q := Q) h1 hs hw)
 have skp : K (putA σ o.dst aa) h → KK (a.put o.dst undef) w := fun hk => hQ g _ h _ w hk (Gh.le.refl g) (Keep.refl _ _ _) (hs.skip o.dst)
 unfold wpOp
 simp only [hi]
 rcases rM hk with ⟨q1, q2⟩ | ⟨q1, q2⟩
 ·have hwant := (fQ (o := o) hs.vl h2 (by simp only at q1; rw [q1]; simp)).resolve_right (fun x => by simp only at q1; rw [q1] at x; simp at x)
  rw [if_pos hwant.2]
  exact .inl (run q2)
 ·have hwant := (fQ (o := o) hs.vl h2 (by simp only at q1; rw [q1]; simp)).resolve_left (fun x => by simp only at q1; rw [q1] at x; simp at x)
  rw [hwant.2]
  simp only [Bool.false_eq_true, if_false]
  exact skp q2
theorem j9 {S : List Nat} {ops : Array Oper} {l : List CO} {cos : List (CO × Bool)} {mvs : List Nat} (hl : eY P ops mvs 0 ops.toList = some l) (hcos : cos.map (·.1) = l) {Q : Exit → Act → World → Prop} {K : List AV → AH → Prop} :
  ∀ (fuel : Nat) (listed : Array Bool) (g : Gh) (σ : List AV) (h : AH) (a : Act) (w : World), SR ds w0 g n σ h a w → WAny P S ops cos fuel listed σ h K →
   (∀ g' σ' h' a' w', K σ' h' → g.le g' → Keep n g w g' w' → SR ds w0 g' n σ' h' a' w' → Q .normal a' w') → wpAny P .any ops Q fuel listed a w
 | 0, listed, g, σ, h, a, w, hs, hk, hQ => ⟨hk.1, hQ g σ h a w hk.2 (Gh.le.refl g) (Keep.refl _ _ _) hs⟩
 | fuel + 1, listed, g, σ, h, a, w, hs, hk, hQ => by
  refine ⟨fun h0 => hQ g σ h a w (hk.1 h0) (Gh.le.refl g) (Keep.refl _ _ _) hs, fun i hi => ?_⟩
  obtain ⟨p, hp, hw⟩ := hk.2 i hi
  obtain ⟨_, o, ho, _⟩ := mem_ready.1 hi
  obtain ⟨_, hget⟩ := lX hl
  obtain ⟨op, gd, mv, q1, q2, q3⟩ := hget i o (by simpa using ho)
  have hp1 : p.1 = ⟨o.dst, op, gd⟩ := by
   have : (cos.map (·.1))[i]? = some p.1 := by rw [List.getElem?_map, hp]; rfl
   rw [hcos, q3] at this; exact (Option.some.inj this).symm
  have hw' : Wg P p.1 σ h (fun σ' h' => WAny P S ops cos fuel (listed.setIfInBounds i true) σ' h' K) := IZ hw
  rw [hp1] at hw'
  exact CT ho q1 q2 hs hw' fun g' σ' h' a' w' hK lg k s => j9 hl hcos fuel _ g' σ' h' a' w' s hK fun g2 σ2 h2 a2 w2 q l2 k2 s2 => hQ g2 σ2 h2 a2 w2 q (lg.trans l2) (k.trans k2) s2
theorem mJ {S : List Nat} {ops : Array Oper} {l : List CO} {cos : List (CO × Bool)} {id : Nat} (hm : P.follows .mixedOrders = true) {mvs : List Nat} (hl : eY P ops mvs 0 ops.toList = some l) (hcos : cos.map (·.1) = l)
  (hok : yB ops (befL ops.toList) cos ops.size 0 (Array.replicate ops.size false) = true) (hs : SR ds w0 g n σ h a w) {K : List AV → AH → Prop} (hk : vH P S cos σ h K) {Q : Exit → Act → World → Prop}
  (hQ : ∀ g' σ' h' a' w', K σ' h' → g.le g' → Keep n g w g' w' → SR ds w0 g' n σ' h' a' w' → Q .normal a' w') : (Code.region id ops true).wp P Q a w := by
 refine wp_region_any hm ?_
 have hlen : cos.length = ops.size := by
  have := (lX hl).1
  rw [← hcos] at this; simpa using this
 have hdn : Down ops (Array.replicate ops.size false) := by
  intro j o hj _
  simp [Array.getElem?_replicate] at hj
  split at hj <;> simp_all
 have hwa := wP (P := P) (S := S) (ops := ops) (cos := cos) (K := K) cos 0 (Array.replicate ops.size false) σ h (by simp) hdn (by rw [hlen]; exact hok) hk
 rw [hlen] at hwa
 have hs' : SR ds w0 g n σ h a { w with drawn := w.drawn + 1 } := ⟨hs.vl, OVL.keep hs.ov fun _ _ => ⟨rfl, fun _ => rfl⟩, hs.inv.drew, hs.df⟩
 refine j9 hl hcos ops.size _ g σ h a _ hs' hwa fun g' σ' h' a' w' q lg k s => hQ g' σ' h' a' w' q lg (fun B hB => k B hB) s
theorem zN {f : Nat → Option CC} {Q : Ex → List AV → AH → Prop} : ∀ {l : List Nat} {c : CC}, CS f l = some c → W P c σ h Q → ∀ k ∈ l, ∃ c', f k = some c' ∧ W P c' σ h Q
 | [], c, hc, hw, k, hk => by cases hc
 | [j], c, hc, hw, k, hk => by simp only [List.mem_singleton] at hk; subst hk; exact ⟨c, hc, hw⟩
 | i :: j :: r, c, hc, hw, k, hk => by
  simp only [CS] at hc
  split at hc <;> cases hc
  rename_i a b h1 h2
  rcases List.mem_cons.1 hk with rfl | hk
  ·exact ⟨a, h1, hw.1⟩
  ·exact zN h2 hw.2 k hk
theorem zO {o : CO} {K : List AV → AH → Prop} (hw : Wg P o σ h K) : WgD P [] false o σ h K := by
 unfold Wg Wop at hw
 have h1 : preL [] false o σ := fun hff => by cases hff
 have h2 : Wu P (aW o σ) o.dst (ag σ) h (fun u h' => lh [] false o h h' ∧ K (putL σ u) h') := iL (fun u h' k => ⟨fun hff => (by cases hff), k⟩) hw
 exact ⟨h1, h2⟩
theorem I4 {cos : List (CO × Bool)} {k : Nat} {t : Option CC} {c : CC} {Q : Ex → List AV → AH → Prop} (hf : ∀ p ∈ cos, p.2 = false) (hc : opC cos k t = some c) (hw : W P c σ h Q) :
  ∃ p t', cos[k]? = some p ∧ t = some t' ∧ WgD P [] p.2 p.1 σ h (fun σ' h' => W P t' σ' h' Q) := by
 unfold opC at hc
 split at hc <;> cases hc
 rename_i p t' h1
 have hp := hf p (List.mem_of_getElem? h1)
 refine ⟨p, t', h1, rfl, ?_⟩
 rw [hp]
 exact zO hw
theorem pa {ops : Array Oper} {cos : List (CO × Bool)} {Q : Ex → List AV → AH → Prop} (hf : ∀ p ∈ cos, p.2 = false) : ∀ (fuel : Nat) (listed : Array Bool) (t : CC) (σ : List AV) (h : AH), Down ops listed →
  vL ops (befL ops.toList) cos fuel listed = some t → W P t σ h Q → WAny P [] ops cos fuel listed σ h (Q .normal)
 | 0, listed, t, σ, h, hdn, ht, hw => by
  simp only [vL] at ht
  split at ht <;> cases ht
  rename_i he
  exact ⟨by simpa using he, hw⟩
 | fuel + 1, listed, t, σ, h, hdn, ht, hw => by
  simp only [vL] at ht
  split at ht
  ·rename_i k hk
   obtain ⟨hfr, hmem⟩ := And.intro (List.find?_some hk) (List.mem_of_find?_eq_some hk)
   obtain ⟨p, t', hp, ht', hw'⟩ := I4 hf ht hw
   refine qN hp fuel listed σ h hdn ?_ hmem (mI (fun σ' h' hk' => pa hf fuel _ t' σ' h' (hdn.add hmem) ht' hk') hw')
   intro j q hq hjk hun hno
   simp only [EY, hp] at hfr
   have := List.all_eq_true.1 hfr (q, j) (by rw [List.mem_zipIdx_iff_getElem?]; exact hq)
   simp only [Bool.or_eq_true, beq_iff_eq] at this
   rcases this with ((h1 | h1) | h1) | h1
   ·exact absurd h1 hjk
   ·rw [hun] at h1; cases h1
   ·rw [hno] at h1; cases h1
   ·exact h1
  ·have hall := zN ht hw
   refine ⟨fun h0 => (by rw [h0] at ht; cases ht), fun i hi => ?_⟩
   obtain ⟨c', hc', hw'⟩ := hall i hi
   obtain ⟨p, t', hp, ht', hw''⟩ := I4 hf hc' hw'
   exact ⟨p, hp, mI (fun σ' h' hk' => pa hf fuel _ t' σ' h' (hdn.add hi) ht' hk') hw''⟩
theorem rT {ops : Array Oper} {l : List CO} {cos : List (CO × Bool)} {id : Nat} {t : CC} (hm : P.follows .mixedOrders = true) {mvs : List Nat} (hl : eY P ops mvs 0 ops.toList = some l) (hcos : cos.map (·.1) = l) (hf : ∀ p ∈ cos, p.2 = false)
  (ht : vL ops (befL ops.toList) cos ops.size (Array.replicate ops.size false) = some t) (hs : SR ds w0 g n σ h a w) {QQ : Ex → List AV → AH → Prop} (hk : W P t σ h QQ) {Q : Exit → Act → World → Prop}
  (hQ : ∀ g' σ' h' a' w', QQ .normal σ' h' → g.le g' → Keep n g w g' w' → SR ds w0 g' n σ' h' a' w' → Q .normal a' w') : (Code.region id ops true).wp P Q a w := by
 refine wp_region_any hm ?_
 have hdn : Down ops (Array.replicate ops.size false) := by
  intro j o hj _
  simp [Array.getElem?_replicate] at hj
  split at hj <;> simp_all
 have hwa := pa hf _ _ t σ h hdn ht hk
 have hs' : SR ds w0 g n σ h a { w with drawn := w.drawn + 1 } := ⟨hs.vl, OVL.keep hs.ov fun _ _ => ⟨rfl, fun _ => rfl⟩, hs.inv.drew, hs.df⟩
 refine j9 hl hcos ops.size _ g σ h a _ hs' hwa fun g' σ' h' a' w' q lg k s => hQ g' σ' h' a' w' q lg (fun B hB => k B hB) s
theorem yD {c : Code} {Q : Exit → Act → World → Prop} (I : Nat → Act → World → Prop) (m : Nat) (h₀ : I m a w)
  (round : ∀ m a w, I m a w → c.wp P (Exit.then (fun a' w' => ∃ m', m' < m ∧ I m' a' w') Q) a w) : (Code.loop c).wp P Q a w := by
 intro b k cs
 have key : ∀ m a w, I m a w → ∃ e a' w', Q e a' w' ∧ Arrives P (lone (b.at a (.code c :: .inLoop c :: k)) cs w) b k cs e a' w' := by
  intro m
  induction m using Nat.strongRecOn with
  | _ m ih =>
   intro a w hI
   obtain ⟨e, a₁, w₁, hq, harr⟩ := round m a w hI b (.inLoop c :: k) cs
   have out : ∀ e' : Exit, e = e' → e' ≠ .normal → Q e' a₁ w₁ → ∃ e a' w', Q e a' w' ∧ Arrives P (lone (b.at a (.code c :: .inLoop c :: k)) cs w) b k cs e a' w' := by
    rintro e' rfl hn hq'
    exact ⟨_, a₁, w₁, hq', .pass (x := .inLoop c) rfl (fun _ _ => .inl hn) harr⟩
   cases e with
   | normal =>
    obtain ⟨m', hlt, hI₁⟩ := hq
    obtain ⟨e₂, a₂, w₂, hq₂, harr₂⟩ := ih m' hlt a₁ w₁ hI₁
    exact ⟨e₂, a₂, w₂, hq₂, .of_steps (Steps.trans harr (.one step_inLoop)) harr₂⟩
   | exit id => exact out _ rfl (by simp) hq
   | goto l => exact out _ rfl (by simp) hq
   | ret => exact out _ rfl (by simp) hq
   | panic ch => exact out _ rfl (by simp) hq
   | outgrown => exact out _ rfl (by simp) hq
 obtain ⟨e, a', w', hq, harr⟩ := key m a w h₀
 exact ⟨e, a', w', hq, .of_steps (.one step_loop) harr⟩
theorem wQ {S : List Nat} : ∀ {cos : List (CO × Bool)} {σ : List AV} {h : AH} {K : List AV → AH → Prop}, (∀ p ∈ cos, p.2 = false) → Wops P (cos.map (·.1)) σ h K → vH P S cos σ h K
 | [], σ, h, K, hf, hk => hk
 | (o, f) :: cos, σ, h, K, hf, hk => by
  have hf0 : f = false := hf (o, f) (by simp)
  subst hf0
  simp only [List.map_cons, Wops] at hk
  unfold Wg Wop at hk
  have h1 : preL S false o σ := fun hff => by cases hff
  have h2 : Wu P (aW o σ) o.dst (ag σ) h (fun u h' => lh S false o h h' ∧ vH P S cos (putL σ u) h' K) :=
   iL (fun u h' hw => ⟨fun hff => (by cases hff), wQ (fun p hp => hf p (by simp [hp])) hw⟩) hk
  exact ⟨h1, h2⟩
theorem SR.kill (hs : SR ds w0 g n σ h a w) : ∀ (ws : List Nat), SR ds w0 g n (dD ws σ) h a w := by
 intro ws
 induction ws generalizing σ with
 | nil => exact hs
 | cons i ws ih =>
  refine ih ?_
  rcases Nat.lt_or_ge i σ.length with hi | hi
  ·have hlen := VL.length hs.vl
   obtain ⟨v, hv⟩ : ∃ v, σ[i]? = some v := ⟨σ[i], by simp [hi]⟩
   obtain ⟨u, hu, hvu⟩ := VL.get hs.vl hv
   have hself : a.tmps.toList.set i u = a.tmps.toList := by
    apply List.ext_getElem?
    intro j
    by_cases hj : j = i
    ·subst hj; rw [List.getElem?_set_self (List.getElem?_eq_some_iff.1 hu).1, hu]
    ·rw [List.getElem?_set_ne (by omega)]
   have hany : VR g .any u := by simp [VR]
   refine ⟨by have := VL.set hs.vl i hany; rwa [hself] at this, by have := OVL.set hs.ov i (v := .any) (u := u) (by simp [OV]); rwa [hself] at this, hs.inv.le fun B => ?_, hs.df⟩
   have := nj hs.vl i .any u B
   rw [hself] at this
   simp only [tk] at this
   omega
  ·rw [List.set_eq_of_length_le hi]; exact hs
theorem cP {ws : List Nat} {c : CC} {Q : Ex → List AV → AH → Prop} (hk : W P (vK ws c) σ h Q) : W P c (dD ws σ) h Q := by
 cases ws with
 | nil => exact hk
 | cons i ws => exact hk
theorem eP : ∀ {c : Code} {hs0 hs1 : HL} {cc : CC} {Q : Ex → List AV → AH → Prop} {g : Gh} {σ : List AV} {h : AH} {a : Act} {w : World}, noRF c = true → cA P c hs0 = some (cc, hs1) → SR ds w0 g n σ h a w → W P cc σ h Q → c.wp P (Post ds w0 g n w Q) a w
 | .skip, hs0, hs1, cc, Q, g, σ, h, a, w, hn, hc, hs, hk => by
  simp only [cA, Option.some.injEq, Prod.mk.injEq] at hc; obtain ⟨rfl, rfl⟩ := hc
  exact wp_skip ⟨.normal, g, σ, h, rfl, hk, Gh.le.refl g, Keep.refl _ _ _, hs⟩
 | .region id ops false, hs0, hs1, cc, Q, g, σ, h, a, w, hn, hc, hs, hk => by
  simp only [cA] at hc
  split at hc <;> cases hc
  rename_i l hl
  replace hk := cP hk
  refine wp_region_list (nw hl (hs.kill _) hk fun g' σ' h' a' w' q lg k s => ⟨.normal, g', σ', h', rfl, q, lg, k, s⟩)
 | .region id ops true, hs0, hs1, cc, Q, g, σ, h, a, w, hn, hc, hs, hk => by
  simp only [cA] at hc
  split at hc <;> try (cases hc; done)
  rename_i l hl
  split at hc <;> cases hc
  rename_i cr hcr
  replace hk := cP hk
  replace hs := hs.kill (popH hs0).1.1
  generalize dD (popH hs0).1.1 σ = σ at *
  unfold I3 at hcr
  dsimp only at hcr
  split at hcr
  rotate_left
  ·split at hcr <;> try (cases hcr; done)
   rename_i hchk
   simp only [Bool.and_eq_true] at hchk
   exact rT (cos := l.map fun o => (o, false)) hchk.1 hl (by rw [List.map_map]; exact List.map_id _) (fun p hp => by obtain ⟨o, _, rfl⟩ := List.mem_map.1 hp; rfl) hcr hs hk fun g' σ' h' a' w' q lg k s => ⟨.normal, g', σ', h', rfl, q, lg, k, s⟩
  rename_i hchk
  cases hcr
  simp only [Bool.and_eq_true] at hchk
  have hfst : (wO (befL ops.toList) l).map (·.1) = l := by simp [List.map_fst_zip, wO]
  by_cases hall : (wO (befL ops.toList) l).all (fun p => !p.2) = true
  ·rw [if_pos hall] at hk
   refine mJ (S := []) hchk.1.1 hl hfst hchk.2 hs (K := Q .normal) (wQ (fun p hp => ?_) (by rw [hfst]; exact hk)) fun g' σ' h' a' w' q lg k s => ⟨.normal, g', σ', h', rfl, q, lg, k, s⟩
   have := List.all_eq_true.1 hall p hp
   simpa using this
  rw [if_neg hall] at hk
  obtain ⟨S, hk⟩ := hk
  exact mJ hchk.1.1 hl hfst hchk.2 hs hk fun g' σ' h' a' w' q lg k s => ⟨.normal, g', σ', h', rfl, q, lg, k, s⟩
 | .seq x y, hs0, hs1, cc, Q, g, σ, h, a, w, hn, hc, hs, hk => by
  simp only [cA] at hc
  split at hc <;> try (cases hc; done)
  rename_i a' hsa h1
  split at hc <;> cases hc
  rename_i b' h2
  refine wp_seq (wp_mono (eP (by simp only [noRF, Bool.and_eq_true] at hn; first | exact hn.1 | exact hn) h1 hs hk) ?_)
  rintro e a1 w1 ⟨x1, g1, σ1, h1', rfl, q, lg, k, s⟩
  cases x1 with
  | normal => exact wp_mono (eP (by simp only [noRF, Bool.and_eq_true] at hn; exact hn.2) h2 s q) fun e a2 w2 hp => hp.trans lg k
  | exit i => exact ⟨.exit i, g1, σ1, h1', rfl, q, lg, k, s⟩
  | ret => exact ⟨.ret, g1, σ1, h1', rfl, q, lg, k, s⟩
 | .cond c x y, hs0, hs1, cc, Q, g, σ, h, a, w, hn, hc, hs, hk => by
  simp only [cA] at hc
  split at hc <;> try (cases hc; done)
  rename_i c' x' hsx h1 h2
  split at hc <;> cases hc
  rename_i y' h3
  have vc := ai hs.inv.gl hs.vl h1
  simp only [W] at hk
  split at hk <;> try (exact hk.elim)
  rename_i b hb
  rw [hb] at vc
  simp only [VR] at vc
  cases b
  ·exact wp_cond_false vc (eP (by simp only [noRF, Bool.and_eq_true] at hn; exact hn.2) h3 hs (hk.2 rfl))
  ·exact wp_cond_true vc (eP (by simp only [noRF, Bool.and_eq_true] at hn; exact hn.1) h2 hs (hk.1 rfl))
 | .block id c, hs0, hs1, cc, Q, g, σ, h, a, w, hn, hc, hs, hk => by
  simp only [cA] at hc
  split at hc <;> cases hc
  rename_i c' h1
  refine wp_block (wp_mono (eP (by simp only [noRF, Bool.and_eq_true] at hn; first | exact hn.1 | exact hn) h1 hs hk) ?_)
  rintro e a1 w1 ⟨x1, g1, σ1, h1', rfl, q, lg, k, s⟩
  cases x1 with
  | normal => exact ⟨.normal, g1, σ1, h1', rfl, q, lg, k, s⟩
  | exit i =>
   simp only at q
   by_cases hi : i = id
   ·simp only [hi, if_true] at q
    simp only [Ex.out, Exit.inBlock, hi, if_true]
    exact ⟨.normal, g1, σ1, h1', rfl, q, lg, k, s⟩
   ·simp only [hi, if_false] at q
    simp only [Ex.out, Exit.inBlock, hi, if_false]
    exact ⟨.exit i, g1, σ1, h1', rfl, q, lg, k, s⟩
  | ret => exact ⟨.ret, g1, σ1, h1', rfl, q, lg, k, s⟩
 | .loop c, hs0, hs1, cc, Q, g, σ, h, a, w, hn, hc, hs, hk => by
  simp only [cA] at hc
  split at hc <;> cases hc
  rename_i c' h1
  replace hk := cP hk
  replace hs := hs.kill (popH hs0).1.1
  generalize dD (popH hs0).1.1 σ = σ at *
  obtain ⟨I, m, hI, round⟩ := hk
  refine yD (fun m a' w' => ∃ g' σ' h', I σ' h' m ∧ g.le g' ∧ Keep n g w g' w' ∧ SR ds w0 g' n σ' h' a' w') m ⟨g, σ, h, hI, Gh.le.refl g, Keep.refl _ _ _, hs⟩ ?_
  rintro m a1 w1 ⟨g1, σ1, h1', hI1, lg, k, s⟩
  refine wp_mono (eP (by simpa only [noRF] using hn) h1 (s.kill _) (cP (round _ _ _ hI1))) ?_
  rintro e a2 w2 ⟨x2, g2, σ2, h2', rfl, q, lg2, k2, s2⟩
  cases x2 with
  | normal => obtain ⟨m', hm, hI'⟩ := q; exact ⟨m', hm, g2, σ2, h2', hI', lg.trans lg2, k.trans k2, s2⟩
  | exit i => exact ⟨.exit i, g2, σ2, h2', rfl, q, lg.trans lg2, k.trans k2, s2⟩
  | ret => exact ⟨.ret, g2, σ2, h2', rfl, q, lg.trans lg2, k.trans k2, s2⟩
 | .exit id, hs0, hs1, cc, Q, g, σ, h, a, w, hn, hc, hs, hk => by
  simp only [cA, Option.some.injEq, Prod.mk.injEq] at hc; obtain ⟨rfl, rfl⟩ := hc
  exact wp_exit ⟨.exit id, g, _, h, rfl, cP hk, Gh.le.refl g, Keep.refl _ _ _, hs.kill _⟩
 | .ret, hs0, hs1, cc, Q, g, σ, h, a, w, hn, hc, hs, hk => by
  simp only [cA, Option.some.injEq, Prod.mk.injEq] at hc; obtain ⟨rfl, rfl⟩ := hc
  exact wp_ret ⟨.ret, g, _, h, rfl, cP hk, Gh.le.refl g, Keep.refl _ _ _, hs.kill _⟩
 | .rangeFunc .., hs0, hs1, cc, Q, g, σ, h, a, w, hn, hc, hs, hk => by simp [noRF] at hn
 | .scope _, hs0, hs1, cc, Q, g, σ, h, a, w, hn, hc, hs, hk => by simp [cA] at hc
 | .label _, hs0, hs1, cc, Q, g, σ, h, a, w, hn, hc, hs, hk => by simp [cA] at hc
 | .goto _, hs0, hs1, cc, Q, g, σ, h, a, w, hn, hc, hs, hk => by simp [cA] at hc
 | .refuse _, hs0, hs1, cc, Q, g, σ, h, a, w, hn, hc, hs, hk => by
  simp only [cA, Option.some.injEq, Prod.mk.injEq] at hc; obtain ⟨rfl, rfl⟩ := hc
  simp only [W, Wops, Wg] at hk
  have hk2 : Wop P .stuck none σ h _ := hk
  obtain ⟨r, hr, _⟩ := hk2
  simp [xop] at hr
inductive RV where
 | tmp (t : Nat)
 | cell (t : Nat) (m : Option Nat)
 deriving Inhabited
def lO (P : Program) : ResultVar → Option RV
 | .tmp t => some (.tmp t)
 | .cell a t => match varOf P t with | some m => some (.cell a m) | none => none
def retV (h : AH) : List RV → List AV → Option (List AV)
 | [], σ => some []
 | .tmp t :: rs, σ => (retV h rs (σ.set t (σ.getD t aa).sh)).map fun vs => σ.getD t aa :: vs
 | .cell t m :: rs, σ => (ld m h (σ.getD t aa)).bind fun v => (retV h rs σ).map fun vs => v :: vs
def oneOf (vs : List AV) : AV := match vs with | [v] => v | vs => .tup vs
def tO (tmps : Array Value) : ResultVar → Sem Value
 | .tmp t => pure (tmps.getD t undef)
 | .cell a t => do loadVar t (← asAddr (tmps.getD a undef))
theorem mK : ∀ {rs : List ResultVar} {rs' : List RV} {n : Nat → Nat} {σ : List AV} {vs : List AV}, rs.mapM (lO P) = some rs' → SR ds w0 g n σ h a w → retV h rs' σ = some vs →
  ∃ us, (rs.mapM (tO a.tmps)).run P w = .ok us w ∧ VL g vs us ∧ OVL w0 g w vs us ∧ Inv w0 g h (fun B => n B + tkL vs us B) w
 | [], rs', n, σ, vs, hc, hs, hk => by
  simp at hc; subst hc
  simp only [retV, Option.some.injEq] at hk; subst hk
  exact ⟨[], rfl, rfl, trivial, hs.inv.le fun B => by simp [tkL]⟩
 | r :: rs, rs', n, σ, vs0, hc, hs, hk => by
  simp only [List.mapM_cons, Option.bind_eq_bind, Option.bind_eq_some_iff, Option.pure_def, Option.some.injEq] at hc
  obtain ⟨r', hr, l, hl, rfl⟩ := hc
  cases r with
  | tmp t =>
   simp only [lO, Option.some.injEq] at hr; subst hr
   obtain ⟨k1, k2, k3⟩ := hs.da (x := .tmp t) (y := .tmp t) rfl
   simp only [retV, Option.map_eq_some_iff] at hk
   obtain ⟨vs, hk, rfl⟩ := hk
   obtain ⟨us, h1, h2, h3, h4⟩ := mK hl k1 hk
   refine ⟨a.tmps.getD t undef :: us, ?_, ⟨_, us, rfl, k2, h2⟩, ⟨k3, h3⟩, h4.le fun B => ?_⟩
   ·simp only [List.mapM_cons, tO, Sem.run_bind, Sem.run_pure, Result.andThen_ok, h1]
   ·simp only [tkL]
    show n B + (tk (da σ (.tmp t)).1 (a.eval (.tmp t)) B + tkL vs us B) ≤ _
    omega
  | cell c t =>
   simp only [lO] at hr
   split at hr <;> cases hr
   rename_i m hm
   simp only [retV, Option.bind_eq_some_iff, Option.map_eq_some_iff] at hk
   obtain ⟨v, hv, vs, hk, rfl⟩ := hk
   obtain ⟨v', z, q1, q2, q3, rfl⟩ := mu (K := (· = v)) hs.inv (ig hm) (VL.getD hs.vl c) (zE hv rfl)
   obtain ⟨us, h1, h2, h3, h4⟩ := mK hl hs hk
   have hrun : (tO a.tmps (.cell c t)).run P w = .ok z w := by
    simp only [tO, Sem.run_bind]
    simp only [Instr.loadAt, Sem.run_bind] at q1
    generalize a.tmps.getD c undef = p at *
    cases p with
    | pointer ad =>
     cases ad with
     | none => simp [Instr.sureAddr] at q1
     | some ad => simpa [asAddr, Instr.sureAddr] using q1
    | _ => simp [Instr.sureAddr] at q1
   refine ⟨z :: us, ?_, ⟨_, us, rfl, q2, h2⟩, ⟨oL q3, h3⟩, h4.le fun B => ?_⟩
   ·simp only [List.mapM_cons, Sem.run_bind, hrun, Result.andThen_ok, h1, Sem.run_pure]
   ·simp only [tkL]; rw [oK q3]; omega
theorem yE {f : FuncId} {fn : Func} {c : Code} {rs : List RV} {args : List AV} {h : AH} {K : AV → AH → Prop} (hf : P.funcs[f]? = some fn) (hb : fn.body = some c)
  (hr : fn.results.toList.mapM (lO P) = some rs)
  (hw : ∀ (w0 : World) (g : Gh) (n : Nat → Nat) (a : Act) (w : World), SR [] w0 g n (args ++ List.replicate (fn.ntmps - args.length) aa) h a w → c.wp P (Post [] w0 g n w (fun e σ h => e.fin ∧ ∃ vs, retV h rs σ = some vs ∧ K (oneOf vs) h)) a w) : Spec P f args h K := by
 intro w0 g n w vs hv hcl hi
 refine calls_of_wp hf hb ?_
 have hlen := VL.length hv
 have hs : SR [] w0 g n (args ++ List.replicate (fn.ntmps - args.length) aa) h { tmps := vs.toArray ++ Array.replicate (fn.ntmps - vs.toArray.size) undef, defers := [] } w := by
  have hcl2 : clL (args ++ List.replicate (fn.ntmps - args.length) aa) = true := by
   have : ∀ (xs ys : List AV), clL xs = true → clL ys = true → clL (xs ++ ys) = true := by
    intro xs ys h1 h2
    induction xs with
    | nil => exact h2
    | cons x xs ih => simp only [clL, Bool.and_eq_true, List.cons_append] at *; exact ⟨h1.1, ih h1.2⟩
   refine this _ _ hcl ?_
   generalize fn.ntmps - args.length = k
   induction k with
   | zero => rfl
   | succ k ih => simp only [List.replicate_succ, clL, ih]; rfl
  refine ⟨?_, lM hcl2, hi.le fun B => by rw [mo hcl2]; omega, rfl⟩
  simp only [Array.toList_append, Array.toList_replicate, List.size_toArray, hlen]
  exact VL.append hv (VL.replicate (od g) _)
 refine wp_mono (hw _ _ _ _ _ hs) ?_
 rintro e a' w' ⟨x, g', σ', h', rfl, ⟨q0, vs', q, r5⟩, lg, k, s⟩
 obtain ⟨us, r1, r2, r3, r4⟩ := mK hr s q
 have hres : ∃ u, (results fn a'.tmps).run P w' = .ok u w' ∧ VR g' (oneOf vs') u ∧ OV w0 g' w' (oneOf vs') u ∧ ∀ B, tk (oneOf vs') u B = tkL vs' us B := by
  have hm : (fn.results.mapM (tO a'.tmps)).run P w' = .ok us.toArray w' := by
   rw [← Array.toArray_toList (xs := fn.results)]
   rw [List.mapM_toArray]
   simp [r1]
  have hr2 : (results fn a'.tmps).run P w' = .ok (if h : us.toArray.size = 1 then us.toArray[0] else .tuple us.toArray) w' := by
   have : results fn a'.tmps = (do let vs ← fn.results.mapM (tO a'.tmps); pure (if h : vs.size = 1 then vs[0] else .tuple vs)) := by
    unfold results
    congr 1
   rw [this]
   simp only [Sem.run_bind, hm, Result.andThen_ok, Sem.run_pure]
  refine ⟨_, hr2, ?_⟩
  have hl := VL.length r2
  match vs', us, hl, r2, r3 with
  | [], [], _, _, _ => exact ⟨⟨#[], rfl, rfl⟩, trivial, fun B => rfl⟩
  | [v], [u], _, r2, r3 =>
   simp only [VL] at r2
   obtain ⟨_, _, he, r2, _⟩ := r2
   cases he
   exact ⟨r2, r3.1, fun B => by simp [oneOf, tkL]⟩
  | v1 :: v2 :: vs', u1 :: u2 :: us, _, r2, r3 =>
   have hsz : ¬ ((u1 :: u2 :: us).toArray.size = 1) := by simp
   simp only [hsz, dif_neg, not_false_eq_true]
   exact ⟨⟨_, rfl, by simpa using r2⟩, by simpa [oneOf, OV] using r3, fun B => by simp [oneOf, tk]⟩
 obtain ⟨u, t1, t2, t3, t4⟩ := hres
 have hfin : (fun e w'' => ∃ g'' r u h'', e = Ending.returned u ∧ K r h'' ∧ g.le g'' ∧ Keep n g w g'' w'' ∧ VR g'' r u ∧ OV w0 g'' w'' r u ∧ Inv w0 g'' h'' (fun B => n B + tk r u B) w'') (.returned u) w' :=
  ⟨g', oneOf vs', u, h', rfl, r5, lg, k, t2, t3, r4.le fun B => by rw [t4 B]; exact Nat.le_refl _⟩
 cases x with
 | normal => exact ⟨s.df, u, t1, hfin⟩
 | exit i => exact q0.elim
 | ret => exact ⟨s.df, u, t1, hfin⟩
end
end Go.Proofs.YtibchilpaaiecaaGreatDoor.M
