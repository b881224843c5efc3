/- Operands, the state of a frame, operations on values alone. -/
import Derived.Test.YtibchilpaaiecaaGreatDoorM2
import Derived.ChangeKeysEq
import Derived.Laws.Slices
set_option linter.unusedVariables false
set_option linter.unusedSimpArgs false
namespace Go.Proofs.YtibchilpaaiecaaGreatDoor.M
open Go.RowKit
inductive Opd where
 | tmp (t : Nat)
 | con (v : AV)
 deriving Inhabited
def lit : Value → Option AV
 | .int k n => some (.int k n)
 | .bool b => some (.bool b)
 | .string s => some (.str s)
 | .pointer none => some .nilp
 | .slice none 0 0 => some (.sl .ex [])
 | .map none => some .nilm
 | .nilFunc => some .nilf
 | .nilIface => some .nili
 | _ => none
def litL : List Value → Option (List AV)
 | [] => some []
 | v :: vs => match lit v, litL vs with
  | some a, some as => some (a :: as)
  | _, _ => none
def litC : Value → Option (List AV)
 | .agg cs => litL cs.toList
 | v => match lit v with | some a => some [a] | none => none
theorem tm {g : Gh} {v : Value} {a : AV} (h : lit v = some a) : VR g a v ∧ a.cl = true ∧ a.one = true := by
 unfold lit at h
 split at h <;> cases h <;> simp [VR, AV.cl, AV.one]
theorem u5 {g : Gh} : ∀ {vs : List Value} {as : List AV}, litL vs = some as → VL g as vs ∧ clL as = true ∧ aM as = true
 | [], as, h => by simp only [litL, Option.some.injEq] at h; subst h; simp [VL, clL, aM]
 | v :: vs, as, h => by
  simp only [litL] at h
  split at h
  ·rename_i a as' h1 h2
   cases h
   obtain ⟨x1, x2, x3⟩ := tm (g := g) h1
   obtain ⟨y1, y2, y3⟩ := u5 (g := g) h2
   exact ⟨⟨v, vs, rfl, x1, y1⟩, by simp [clL, x2, y2], by simp [aM, x3, y3]⟩
  ·cases h
theorem y7 {v : Value} {a : AV} (h : lit v = some a) : v.cells = #[v] := by
 unfold lit at h
 split at h <;> first | rfl | cases h
theorem oO {g : Gh} {v : Value} {as : List AV} (h : litC v = some as) : VL g as v.cells.toList ∧ clL as = true ∧ aM as = true := by
 unfold litC at h
 split at h
 ·exact u5 h
 ·split at h
  ·rename_i a ha
   cases h
   obtain ⟨x1, x2, x3⟩ := tm (g := g) ha
   rw [y7 ha]
   exact ⟨⟨v, [], rfl, x1, by simp [VL]⟩, by simp [clL, x2], by simp [aM, x3]⟩
  ·cases h
def aB : Operand → Option Opd
 | .tmp t => some (.tmp t)
 | .const v => match lit v with | some a => some (.con a) | none => none
 | .func f => some (.con (.fn (.func f) [] []))
 | .global x => match GT.lookup x with | some cs => some (.con (.ref cs)) | none => none
def aa : AV := .tup []
def ag (σ : List AV) : Opd → AV
 | .tmp t => σ.getD t aa
 | .con v => v
def putA (σ : List AV) (d : Option Nat) (v : AV) : List AV := match d with | some d => σ.set d v | none => σ
structure SR (ds : List Deferred) (w0 : World) (g : Gh) (n : Nat → Nat) (σ : List AV) (h : AH) (a : Act) (w : World) : Prop where
 vl : VL g σ a.tmps.toList
 ov : OVL w0 g w σ a.tmps.toList
 inv : Inv w0 g h (fun B => n B + tkL σ a.tmps.toList B) w
 df : a.defers = ds
theorem od (g : Gh) : VR g aa undef := ⟨#[], rfl, rfl⟩
theorem VL.getD {g : Gh} {vs : List AV} {us : Array Value} (h : VL g vs us.toList) (t : Nat) : VR g (vs.getD t aa) (us.getD t undef) := by
 cases e : vs[t]? with
 | none =>
  have h1 : us[t]? = none := by
   have := VL.length h
   rw [List.getElem?_eq_none_iff] at e
   rw [Array.getElem?_eq_none_iff]
   simp at this; omega
  simp [List.getD, e, Array.getD_eq_getD_getElem?, h1, od]
 | some v =>
  obtain ⟨u, hu, hv⟩ := VL.get h e
  have h1 : us[t]? = some u := by simpa using hu
  simp [List.getD, e, Array.getD_eq_getD_getElem?, h1, hv]
theorem ai {g : Gh} {σ : List AV} {a : Act} (hg : Gl g) (h : VL g σ a.tmps.toList) {x : Operand} {y : Opd} (hc : aB x = some y) : VR g (ag σ y) (a.eval x) := by
 cases x with
 | tmp t => simp only [aB, Option.some.injEq] at hc; subst hc; exact VL.getD h t
 | const v =>
  simp only [aB] at hc
  split at hc
  ·rename_i b hb; cases hc; exact (tm hb).1
  ·cases hc
 | func f => simp only [aB, Option.some.injEq] at hc; subst hc; exact ⟨#[], #[], rfl, by simp [VL], by simp [VL], rfl, rfl⟩
 | global x =>
  simp only [aB] at hc
  split at hc
  ·rename_i cs hx; cases hc; simp only [ag, VR]; exact ⟨x, 0, rfl, hg.at_ hx⟩
  ·cases hc
theorem Act.put_toList (a : Act) (d : Option Nat) (u : Value) : (a.put d u).tmps.toList = match d with | some d => a.tmps.toList.set d u | none => a.tmps.toList := by
 cases d <;> simp [Act.put]
theorem Act.put_defers (a : Act) (d : Option Nat) (u : Value) : (a.put d u).defers = a.defers := by cases d <;> rfl
section
variable {w0 w : World} {ds : List Deferred} {g : Gh} {n : Nat → Nat} {σ : List AV} {h : AH} {a : Act}
theorem VL.putA {v : AV} {u : Value} (hv : VL g σ a.tmps.toList) (d : Option Nat) (hu : VR g v u) : VL g (putA σ d v) (a.put d u).tmps.toList := by
 rw [Act.put_toList]
 cases d with
 | none => exact hv
 | some d => exact VL.set hv d hu
theorem SR.step {w' : World} {g' : Gh} {h' : AH} {v : AV} {u : Value} (hs : SR ds w0 g n σ h a w) (d : Option Nat) (hvl : VL g' σ a.tmps.toList) (hov : OVL w0 g' w' σ a.tmps.toList)
  (hu : VR g' v u) (hv : OV w0 g' w' v u) (hi : Inv w0 g' h' (fun B => n B + tkL σ a.tmps.toList B + tk v u B) w') : SR ds w0 g' n (putA σ d v) h' (a.put d u) w' := by
 refine ⟨VL.putA hvl d hu, ?_, hi.le fun B => ?_, by rw [Act.put_defers]; exact hs.df⟩
 ·rw [Act.put_toList]
  cases d with
  | none => exact hov
  | some d => exact OVL.set hov d hv
 ·rw [Act.put_toList]
  cases d with
  | none => simp only [putA]; omega
  | some d => simp only [putA]; have := nj hvl d v u B; omega
theorem SR.put (hs : SR ds w0 g n σ h a w) (d : Option Nat) {v : AV} {u : Value} (hu : VR g v u) (hc : v.cl = true) : SR ds w0 g n (putA σ d v) h (a.put d u) w :=
 hs.step d hs.vl hs.ov hu (oL hc) (hs.inv.le fun B => by rw [oK hc]; omega)
theorem SR.shl (hs : SR ds w0 g n σ h a w) {t : Nat} {v : AV} {u : Value} (hv : σ[t]? = some v) (hu : a.tmps[t]? = some u) :
  VL g (σ.set t v.sh) a.tmps.toList ∧ OVL w0 g w (σ.set t v.sh) a.tmps.toList ∧ (∀ B, tkL (σ.set t v.sh) a.tmps.toList B + tk v u B = tkL σ a.tmps.toList B) ∧ OV w0 g w v u ∧ VR g v u := by
 have hu' : a.tmps.toList[t]? = some u := by simpa using hu
 obtain ⟨x, hx, hvr⟩ := VL.get hs.vl hv
 rw [hu'] at hx; cases hx
 have hself : a.tmps.toList.set t u = a.tmps.toList := by
  apply List.ext_getElem?
  intro i
  by_cases hi : i = t
  ·subst hi; rw [List.getElem?_set_self (List.getElem?_eq_some_iff.1 hu').1, hu']
  ·rw [List.getElem?_set_ne (by omega)]
 refine ⟨?_, ?_, fun B => ?_, OVL.get hs.ov hv hu', hvr⟩
 ·have := VL.set hs.vl t (VR.sh v u hvr); rwa [hself] at this
 ·have := OVL.set hs.ov t (v := v.sh) (u := u) (oL (la v)); rwa [hself] at this
 ·have := oM hs.vl (v' := v.sh) (u' := u) hv hu' B
  rw [hself, oK (la v)] at this; omega
theorem SR.take (hs : SR ds w0 g n σ h a w) (d : Option Nat) {t : Nat} {v : AV} {u : Value} (hv : σ[t]? = some v) (hu : a.tmps[t]? = some u) :
  SR ds w0 g n (putA (σ.set t v.sh) d v) h (a.put d u) w := by
 obtain ⟨h1, h2, h3, h4, h5⟩ := hs.shl hv hu
 have hs' : SR ds w0 g n (σ.set t v.sh) h a w := ⟨h1, h2, hs.inv.le fun B => by have := h3 B; omega, hs.df⟩
 exact hs'.step d h1 h2 h5 h4 (hs.inv.le fun B => by have := h3 B; omega)
def bI (ds : List Deferred) (w0 : World) (g : Gh) (n : Nat → Nat) (w : World) (K : List AV → AH → Prop) (a' : Act) (w' : World) : Prop :=
 ∃ g' σ' h', K σ' h' ∧ g.le g' ∧ Keep n g w g' w' ∧ SR ds w0 g' n σ' h' a' w'
theorem eF {P : Program} {o : Oper} {K : List AV → AH → Prop} {Q : Exit → Act → World → Prop} {v : AV} {u : Value} (hs : SR ds w0 g n σ h a w)
  (hr : (execOp a.eval o).run P w = .ok (.value u) w) (hu : VR g v u) (hc : v.cl = true) (hK : K (putA σ o.dst v) h) : o.wp P a w (bI ds w0 g n w K) Q := by
 unfold Oper.wp
 rw [hr, Oper.upon_value]
 exact ⟨g, _, h, hK, Gh.le.refl g, Keep.refl n g w, hs.put o.dst hu hc⟩
end
def rp (op : BinOp) (K : AV → Prop) : AV → AV → Prop
 | .int k a, .int k' b =>
  match op with
  | .shl => 0 ≤ b ∧ K (.int k (k.wrap (a * 2 ^ (min b.toNat k.bits))))
  | .shr => 0 ≤ b ∧ K (.int k (a.fdiv (2 ^ (min b.toNat k.bits))))
  | .add => k = k' ∧ K (.int k (k.wrap (a + b)))
  | .sub => k = k' ∧ K (.int k (k.wrap (a - b)))
  | .mul => k = k' ∧ K (.int k (k.wrap (a * b)))
  | .quo => k = k' ∧ b ≠ 0 ∧ K (.int k (k.wrap (a.tdiv b)))
  | .rem => k = k' ∧ b ≠ 0 ∧ K (.int k (a.tmod b))
  | .and => k = k' ∧ K (.int k (k.wrap (BitVec.ofInt k.bits a &&& BitVec.ofInt k.bits b).toNat))
  | .or => k = k' ∧ K (.int k (k.wrap (BitVec.ofInt k.bits a ||| BitVec.ofInt k.bits b).toNat))
  | .xor => k = k' ∧ K (.int k (k.wrap (BitVec.ofInt k.bits a ^^^ BitVec.ofInt k.bits b).toNat))
  | .andNot => k = k' ∧ K (.int k (k.wrap (BitVec.ofInt k.bits a &&& ~~~ BitVec.ofInt k.bits b).toNat))
  | .eql => k = k' ∧ K (.bool (a == b))
  | .neq => k = k' ∧ K (.bool (a != b))
  | .lss => k = k' ∧ K (.bool (decide (a < b)))
  | .leq => k = k' ∧ K (.bool (decide (a ≤ b)))
  | .gtr => k = k' ∧ K (.bool (decide (a > b)))
  | .geq => k = k' ∧ K (.bool (decide (a ≥ b)))
 | .str a, .str b =>
  match op with
  | .add => ((a.size + b.size : Nat) : Int) ≤ 9223372036854775807 ∧ K (.str (a ++ b))
  | .eql => K (.bool (a.toList == b.toList))
  | .neq => K (.bool (!(a.toList == b.toList)))
  | .lss => K (.bool (Op.bytesLess a.toList b.toList))
  | .leq => K (.bool (Op.bytesLess a.toList b.toList || a.toList == b.toList))
  | .gtr => K (.bool (!(Op.bytesLess a.toList b.toList || a.toList == b.toList)))
  | .geq => K (.bool (!Op.bytesLess a.toList b.toList))
  | _ => False
 | _, _ => False
section
variable {P : Program} {w : World} {g : Gh} {K : AV → Prop} {s : Sem Value}
theorem lT {r : AV} {z : Value} (hK : K r) (hv : VR g r z) (hc : r.cl = true) (hr : s.run P w = .ok z w) : ∃ r z, s.run P w = .ok z w ∧ VR g r z ∧ r.cl = true ∧ K r := ⟨_, _, hr, hv, hc, hK⟩
theorem hZ {k : IntKind} {n : Int} (hK : K (.int k n)) (hr : s.run P w = .ok (.int k n) w) : ∃ r z, s.run P w = .ok z w ∧ VR g r z ∧ r.cl = true ∧ K r := ⟨_, _, hr, by simp [VR], rfl, hK⟩
theorem rq {b : Bool} (hK : K (.bool b)) (hr : s.run P w = .ok (.bool b) w) : ∃ r z, s.run P w = .ok z w ∧ VR g r z ∧ r.cl = true ∧ K r := ⟨_, _, hr, by simp [VR], rfl, hK⟩
theorem tn {b : ByteArray} (hK : K (.str b)) (hr : s.run P w = .ok (.string b) w) : ∃ r z, s.run P w = .ok z w ∧ VR g r z ∧ r.cl = true ∧ K r := ⟨_, _, hr, by simp [VR], rfl, hK⟩
end
theorem y8 {P : Program} {w : World} {g : Gh} {op : BinOp} {K : AV → Prop} (t : TypeId) {x y : AV} {u v : Value} (hx : VR g x u) (hy : VR g y v) (h : rp op K x y) :
  ∃ r z, (binOp op t u v).run P w = .ok z w ∧ VR g r z ∧ r.cl = true ∧ K r := by
 cases x <;> cases y <;> simp only [rp] at h <;> try (exact h.elim)
 ·rename_i k a k' b
  simp only [VR] at hx hy; subst hx hy
  cases op <;> simp only [rp] at h
  case shl => exact hZ h.2 (by simp only [binOp, Op.shift]; rw [if_neg (by omega)]; rfl)
  case shr => exact hZ h.2 (by simp only [binOp, Op.shift]; rw [if_neg (by omega)]; rfl)
  case quo => obtain ⟨rfl, h1, h2⟩ := h; exact hZ h2 (by simp [binOp, Op.intDiv, h1])
  case rem => obtain ⟨rfl, h1, h2⟩ := h; exact hZ h2 (by simp [binOp, Op.intDiv, h1])
  all_goals
   obtain ⟨rfl, h1⟩ := h
   first
    | exact hZ h1 (by simp [binOp, Op.intArith, Op.intBits])
    | exact rq h1 (by simp [binOp, Op.intCmp])
 ·rename_i a b
  simp only [VR] at hx hy; subst hx hy
  cases op <;> simp only [rp] at h <;> try (exact h.elim)
  case add =>
   obtain ⟨h0, h1⟩ := h
   refine tn h1 ?_
   have : ¬ (((a.size + b.size : Nat) : Int) > IntKind.i64.max) := by
    have : IntKind.i64.max = 9223372036854775807 := by decide
    omega
   simp only [binOp, Op.stringOp]
   rw [if_neg this]; rfl
  all_goals exact rq h rfl
def unAV (op : UnOp) (K : AV → Prop) : AV → Prop
 | .bool b => match op with | .not => K (.bool (!b)) | _ => False
 | .int k n => match op with
  | .neg => K (.int k (k.wrap (0 - n)))
  | .xor => K (.int k (k.wrap (BitVec.ofInt k.bits (if k.signed then -1 else k.max) ^^^ BitVec.ofInt k.bits n).toNat))
  | _ => False
 | _ => False
theorem Cz {P : Program} {w : World} {g : Gh} {op : UnOp} {K : AV → Prop} {x : AV} {u : Value} (hx : VR g x u) (h : unAV op K x) :
  ∃ r z, (Op.unary op u).run P w = .ok z w ∧ VR g r z ∧ r.cl = true ∧ K r := by
 cases x <;> simp only [unAV] at h <;> try (exact h.elim)
 ·rename_i k a
  simp only [VR] at hx; subst hx
  cases op <;> simp only [unAV] at h <;> try (exact h.elim)
  all_goals exact hZ h rfl
 ·rename_i b
  simp only [VR] at hx; subst hx
  cases op <;> simp only [unAV] at h <;> try (exact h.elim)
  exact rq h rfl
end Go.Proofs.YtibchilpaaiecaaGreatDoor.M
/- Operations that read: indexes, fields, loads, slices, lengths. -/
set_option linter.unusedVariables false
set_option linter.unusedSimpArgs false
namespace Go.Proofs.YtibchilpaaiecaaGreatDoor.M
open Go.RowKit
theorem addr_add (B o n : Nat) : (⟨B, o, none⟩ : Addr).add n = ⟨B, o + n, none⟩ := by unfold Addr.add; split <;> simp_all
theorem FB {es : List (List AV)} (h : Uni es) {i : Nat} {e : List AV} (hi : es[i]? = some e) : e.length = hsz es := h e (List.mem_of_getElem? hi)
section
variable {P : Program} {w0 w : World} {g : Gh} {h : AH} {n : Nat → Nat}
def ru (S : Nat) (arr : Option Nat) (K : AV → Prop) : AV → AV → Prop
 | .sl m es, .int _ i => arr = none ∧ 0 ≤ i ∧ ∃ e, es[i.toNat]? = some e ∧ e.length = S ∧ K (.ref e)
 | .ref cs, .int _ i => match arr with | some N => 0 ≤ i ∧ i < N ∧ K (.ref (cs.drop (i.toNat * S))) | none => False
 | .box id off, .int _ i => match arr with | some N => 0 ≤ i ∧ i < N ∧ K (.box id (off + i.toNat * S)) | none => False
 | _, _ => False
theorem u6 {K : AV → Prop} {t e : TypeId} {S : Nat} {x i : AV} {u v : Value} (ht : P.underlying t = some (.slice e)) (he : (P.info? e).map (·.size) = some S)
  (hx : VR g x u) (hv : VR g i v) (hk : ru S none K x i) : ∃ r z, (Instr.indexAt t u v).run P w = .ok z w ∧ VR g r z ∧ r.cl = true ∧ K r := by
 have hS : ∀ w : World, (sizeOf e).run P w = .ok S w := by
  intro w
  cases hq : P.info? e with
  | none => simp [hq] at he
  | some inf => simp [hq] at he; simp [sizeOf, typeInfo, hq, he]
 cases x <;> cases i <;> simp only [ru] at hk <;> try (exact hk.elim)
 rename_i m es k j
 obtain ⟨_, h0, ee, he1, he2, hK⟩ := hk
 simp only [VR] at hx hv; subst hv
 have hjl : j.toNat < es.length := (List.getElem?_eq_some_iff.1 he1).1
 rcases hx with ⟨rfl, _, _⟩ | ⟨B, o, cap, rfl, h2, h3, h4, h5, hp⟩
 ·simp at hjl
 ·refine lT (z := .pointer (some ⟨B, o + j.toNat * S, none⟩)) hK ⟨B, o + j.toNat * S, rfl, ?_⟩ rfl ?_
  ·have := PE.at_ hp he1 (s := S) (fun x hx => by rw [h5 x hx, ← FB h5 he1, he2])
   exact this
  ·have : (0 ≤ j ∧ j < (es.length : Int)) := ⟨h0, by omega⟩
   simp [Instr.indexAt, asIntOf, run_underlying ht, this, hS, addr_add]
theorem CA {K : AV → Prop} {t e : TypeId} {S id off len : Nat} {cap : Option Nat} {k : IntKind} {j : Int} {u v : Value} (ht : P.underlying t = some (.slice e)) (he : (P.info? e).map (·.size) = some S)
  (hx : VR g (.bs id off len cap) u) (hv : VR g (.int k j) v) (h0 : 0 ≤ j) (h1 : j < len) (hK : K (.box id (off + j.toNat * S))) : ∃ r z, (Instr.indexAt t u v).run P w = .ok z w ∧ VR g r z ∧ r.cl = true ∧ K r := by
 have hS : ∀ w : World, (sizeOf e).run P w = .ok S w := by
  intro w
  cases hq : P.info? e with
  | none => simp [hq] at he
  | some inf => simp [hq] at he; simp [sizeOf, typeInfo, hq, he]
 simp only [VR] at hx hv; subst hv
 obtain ⟨B, C, o, hb, rfl, h2, h3, h4⟩ := hx
 have := h4 (by omega)
 subst this
 refine lT (z := .pointer (some ⟨B, o + j.toNat * S, none⟩)) hK ⟨B, hb, rfl⟩ rfl ?_
 have : (0 ≤ j ∧ j < (len : Int)) := ⟨h0, by omega⟩
 simp [Instr.indexAt, asIntOf, run_underlying ht, this, hS, addr_add]
theorem u7 {K : AV → Prop} {t e : TypeId} {S N : Nat} {x i : AV} {u v : Value} (ht : P.underlying t = some (.array N e)) (he : (P.info? e).map (·.size) = some S)
  (hx : VR g x u) (hv : VR g i v) (hk : ru S (some N) K x i) : ∃ r z, (Instr.indexAt t u v).run P w = .ok z w ∧ VR g r z ∧ r.cl = true ∧ K r := by
 have hS : ∀ w : World, (sizeOf e).run P w = .ok S w := by
  intro w
  cases hq : P.info? e with
  | none => simp [hq] at he
  | some inf => simp [hq] at he; simp [sizeOf, typeInfo, hq, he]
 cases x <;> cases i <;> simp only [ru] at hk <;> try (exact hk.elim)
 ·rename_i id off k j
  obtain ⟨h0, h1, hK⟩ := hk
  simp only [VR] at hx hv; subst hv
  obtain ⟨B, hb, rfl⟩ := hx
  refine lT (z := .pointer (some ⟨B, off + j.toNat * S, none⟩)) hK ⟨B, hb, rfl⟩ rfl ?_
  have : (0 ≤ j ∧ j < (N : Int)) := ⟨h0, h1⟩
  simp [Instr.indexAt, asIntOf, run_underlying ht, this, hS, addr_add, Instr.sureAddr]
 ·rename_i cs k j
  obtain ⟨h0, h1, hK⟩ := hk
  simp only [VR] at hx hv; subst hv
  obtain ⟨B, o, rfl, hp⟩ := hx
  refine lT (z := .pointer (some ⟨B, o + j.toNat * S, none⟩)) hK ⟨B, o + j.toNat * S, rfl, PR.drop hp _⟩ rfl ?_
  have : (0 ≤ j ∧ j < (N : Int)) := ⟨h0, h1⟩
  simp [Instr.indexAt, asIntOf, run_underlying ht, this, hS, addr_add, Instr.sureAddr]
 ·simp at hk
def u9 (off : Nat) (K : AV → Prop) : AV → Prop
 | .ref cs => K (.ref (cs.drop off))
 | .box id o => K (.box id (o + off))
 | _ => False
theorem va {K : AV → Prop} {s : TypeId} {f : Nat} {fs : Array Field} {fd : Field} {sz : Nat} {x : AV} {u : Value} (hs : P.underlying s = some (.struct fs)) (hf : fs[f]? = some fd)
  (hsz : (P.info? fd.type).map (·.size) = some sz) (h0 : sz ≠ 0) (hx : VR g x u) (hk : u9 fd.offset K x) : ∃ r z, (Instr.fieldAt s u f).run P w = .ok z w ∧ VR g r z ∧ r.cl = true ∧ K r := by
 have hS : ∀ w : World, (sizeOf fd.type).run P w = .ok sz w := by
  intro w
  cases hq : P.info? fd.type with
  | none => simp [hq] at hsz
  | some inf => simp [hq] at hsz; simp [sizeOf, typeInfo, hq, hsz]
 cases x <;> simp only [u9] at hk <;> try (exact hk.elim)
 ·rename_i id o
  simp only [VR] at hx
  obtain ⟨B, hB, rfl⟩ := hx
  refine lT (z := .pointer (some ⟨B, o + fd.offset, none⟩)) hk ⟨B, hB, rfl⟩ rfl ?_
  simp [Instr.fieldAt, run_underlying hs, hf, Instr.sureAddr, fieldPlace, hS, h0, addr_add]
 ·rename_i cs
  simp only [VR] at hx
  obtain ⟨B, o, rfl, hp⟩ := hx
  refine lT (z := .pointer (some ⟨B, o + fd.offset, none⟩)) hk ⟨B, o + fd.offset, rfl, PR.drop hp _⟩ rfl ?_
  simp [Instr.fieldAt, run_underlying hs, hf, Instr.sureAddr, fieldPlace, hS, h0, addr_add]
theorem PR.cells {cs : List AV} {B o : Nat} (hp : PR g cs B o) : ∃ us : List Value, VL g cs us ∧ ∀ j u, us[j]? = some u → g.prot B (o + j) = some u := by
 induction cs generalizing o with
 | nil => exact ⟨[], by simp [VL], fun j u hu => by simp at hu⟩
 | cons c cs ih =>
  simp only [PR] at hp
  obtain ⟨⟨u, h1, h2, h3⟩, hr⟩ := hp
  obtain ⟨us, k1, k2⟩ := ih hr
  refine ⟨u :: us, ⟨u, us, rfl, h2, k1⟩, fun j x hx => ?_⟩
  cases j with
  | zero => simp at hx; subst hx; simpa using h1
  | succ j => have := k2 j x (by simpa using hx); rwa [show o + 1 + j = o + (j + 1) from by omega] at this
theorem PR.cl {cs : List AV} {B o : Nat} (hp : PR g cs B o) : clL cs = true ∧ aM cs = true := by
 induction cs generalizing o with
 | nil => simp [clL, aM]
 | cons c cs ih =>
  simp only [PR] at hp
  obtain ⟨⟨u, h1, h2, h3, h4⟩, hr⟩ := hp
  obtain ⟨k1, k2⟩ := ih hr
  simp [clL, aM, h3, h4, k1, k2]
def wk : TypeDesc → Bool | .struct _ | .array _ _ => true | _ => false
def tq (P : Program) (t : TypeId) : Option Nat → Prop
 | none => ∃ d, P.underlying t = some d ∧ wk d = false
 | some k => ∃ d, P.underlying t = some d ∧ wk d = true ∧ (P.info? t).map (·.size) = some k
theorem iA {t : TypeId} {d : TypeDesc} (h : P.underlying t = some d) (w : World) : (isAgg t).run P w = .ok (wk d) w := by
 simp only [isAgg, Sem.run_bind, run_underlying h, Result.andThen_ok]
 cases d <;> rfl
theorem dK {t : TypeId} {k : Nat} (h : (P.info? t).map (·.size) = some k) (w : World) : (sizeOf t).run P w = .ok k w := by
 cases hq : P.info? t with
 | none => simp [hq] at h
 | some inf => simp [hq] at h; simp [sizeOf, typeInfo, hq, h]
theorem ia {t : TypeId} {a : Addr} {v : Value} (hv : tq P t none) (hc : w.cell? a = some v) : (loadVar t a).run P w = .ok v w := by
 obtain ⟨d, h1, h2⟩ := hv
 simp only [loadVar, Sem.run_bind, iA h1, h2, Result.andThen_ok]
 simp [hc]
theorem jC {t : TypeId} {B o k : Nat} {us : List Value} (hv : tq P t (some k)) (hk : us.length = k) (hc : ∀ j u, us[j]? = some u → w.cell? ⟨B, o + j, none⟩ = some u) :
  (loadVar t ⟨B, o, none⟩).run P w = .ok (.agg us.toArray) w := by
 obtain ⟨d, h1, h2, h3⟩ := hv
 have := run_loadCells_list (P := P) w ⟨B, o, none⟩ us (fun j v hj => by rw [addr_add]; exact hc j v hj)
 simp only [loadVar, Sem.run_bind, iA h1, h2, Result.andThen_ok, if_true, dK h3]
 rw [← hk, this]
 rfl
def tr (m : Option Nat) (h : AH) (K : AV → Prop) : AV → Prop
 | .ref cs => match m with
  | none => ∃ c, cs.head? = some c ∧ K c
  | some k => k ≤ cs.length ∧ K (.agg (cs.take k))
 | .box id off => ∃ cs, h[id]? = some (.cells cs) ∧ match m with
  | none => ∃ c, cs[off]? = some c ∧ K c.sh
  | some k => off + k ≤ cs.length ∧ K (.agg (shL ((cs.drop off).take k)))
 | _ => False
theorem mu {K : AV → Prop} {t : TypeId} {m : Option Nat} {x : AV} {u : Value} (hi : Inv w0 g h n w) (hm : tq P t m) (hx : VR g x u) (hk : tr m h K x) :
  ∃ r z, (Instr.loadAt t u).run P w = .ok z w ∧ VR g r z ∧ r.cl = true ∧ K r := by
 cases x <;> simp only [tr] at hk <;> try (exact hk.elim)
 ·rename_i id off
  obtain ⟨cs, hc, hk⟩ := hk
  simp only [VR] at hx
  obtain ⟨B, hB, rfl⟩ := hx
  obtain ⟨bv, e1, e2, e3⟩ := hi.rest
  have hil : id < h.length := (List.getElem?_eq_some_iff.1 hc).1
  obtain ⟨vs, hvs⟩ : ∃ vs, bv[id]? = some vs := ⟨bv[id], by simp [e1, hil]⟩
  obtain ⟨B', el, ex, h1, h2, h3, h4, ho, h5, h6⟩ := e2 id _ vs hc hvs
  rw [hB] at h1; cases h1
  have hcell : ∀ j u, vs[j]? = some u → w.cell? ⟨B, j, none⟩ = some u := fun j u hu => by
   have hjl := (List.getElem?_eq_some_iff.1 hu).1
   have : (vs ++ ex)[j]? = some u := by rw [List.getElem?_append_left hjl]; exact hu
   simp only [World.cell?, h3, Option.isSome_none, Bool.false_eq_true, if_false, List.getElem?_toArray, this]
  cases m with
  | none =>
   obtain ⟨c, hcc, hK⟩ := hk
   obtain ⟨z, hz, hvz⟩ := VL.get h4 hcc
   refine lT hK (VR.sh c z hvz) (la c) ?_
   simp [Instr.loadAt, Instr.sureAddr, ia hm (hcell _ _ hz)]
  | some k =>
   obtain ⟨hle, hK⟩ := hk
   have hvt := VL.take (VL.drop h4 off) k
   have hlen := VL.length h4
   refine lT (z := .agg ((vs.drop off).take k).toArray) hK ⟨_, rfl, by simpa using VL.sh _ _ hvt, ?_⟩ ?_ ?_
   rotate_left 2
   ·have := jC (P := P) (w := w) (B := B) (o := off) (us := (vs.drop off).take k) hm (by simp; omega) (fun j u hu => by
     rw [List.getElem?_take] at hu
     split at hu
     ·rw [List.getElem?_drop] at hu; exact hcell _ _ hu
     ·cases hu)
    simp [Instr.loadAt, Instr.sureAddr, this]
   ·rw [ml]
    refine iz fun c hc => fw ho c ?_
    exact List.mem_of_mem_drop (List.mem_of_mem_take hc)
   ·simpa [AV.cl] using j5 _
 ·rename_i cs
  simp only [VR] at hx
  obtain ⟨B, o, rfl, hp⟩ := hx
  obtain ⟨us, k1, k2⟩ := hp.cells
  obtain ⟨hcl, hon⟩ := hp.cl
  have hcell : ∀ j u, us[j]? = some u → w.cell? ⟨B, o + j, none⟩ = some u := fun j u hu => hi.prot _ _ _ (k2 j u hu)
  cases m with
  | none =>
   obtain ⟨c, hc, hK⟩ := hk
   obtain ⟨z, hz, hvz⟩ := VL.get k1 (i := 0) (v := c) (by rw [← List.head?_eq_getElem?]; exact hc)
   refine lT hK hvz ?_ ?_
   rotate_left
   ·simp [Instr.loadAt, Instr.sureAddr, ia hm (by simpa using hcell 0 z hz)]
   ·cases cs with
    | nil => simp at hc
    | cons d ds => simp at hc; subst hc; simp only [clL, Bool.and_eq_true] at hcl; exact hcl.1
  | some k =>
   obtain ⟨hle, hK⟩ := hk
   have hvt := VL.take k1 k
   have hlen := VL.length k1
   refine lT (z := .agg (us.take k).toArray) hK ⟨_, rfl, by simpa using hvt, ?_⟩ ?_ ?_
   rotate_left 2
   ·have := jC (P := P) (w := w) (B := B) (o := o) (us := us.take k) hm (by simp; omega) (fun j u hu => by
     rw [List.getElem?_take] at hu
     split at hu
     ·exact hcell _ _ hu
     ·cases hu)
    simp [Instr.loadAt, Instr.sureAddr, this]
   ·exact iz fun c hc => fw hon c (List.mem_of_mem_take hc)
   ·simp only [AV.cl]
    exact (PR.take hp k).cl.1
def jg (m : Option Nat) (off : Nat) (K : AV → Prop) : AV → Prop
 | .agg cs => match m with
  | none => ∃ c, cs[off]? = some c ∧ K c.sh
  | some k => off + k ≤ cs.length ∧ K (.agg (shL ((cs.drop off).take k)))
 | _ => False
theorem qA {K : AV → Prop} {t : TypeId} {m : Option Nat} {off : Nat} {cs : List AV} {vs : Array Value} (hm : tq P t m) (hv : VL g cs vs.toList) (ho : aM cs = true) (hk : jg m off K (.agg cs)) :
  ∃ r z, (part t vs off).run P w = .ok z w ∧ VR g r z ∧ r.cl = true ∧ K r := by
 simp only [jg] at hk
 cases m with
 | none =>
  obtain ⟨d, h1, h2⟩ := hm
  obtain ⟨c, hc, hK⟩ := hk
  obtain ⟨z, hz, hvz⟩ := VL.get hv hc
  refine lT hK (VR.sh c z hvz) (la c) ?_
  have hz' : vs[off]? = some z := by simpa using hz
  simp only [part, Sem.run_bind, iA h1, h2, Result.andThen_ok]
  simp [hz']
 | some k =>
  obtain ⟨d, h1, h2, h3⟩ := hm
  obtain ⟨hle, hK⟩ := hk
  have hvt := VL.take (VL.drop hv off) k
  refine lT (z := .agg (vs.extract off (off + k))) hK ⟨_, rfl, ?_, ?_⟩ ?_ ?_
  rotate_left 3
  ·simp only [part, Sem.run_bind, iA h1, h2, Result.andThen_ok, if_true, dK h3]
   rfl
  ·have e : (vs.extract off (off + k)).toList = (vs.toList.drop off).take k := by simp [List.extract, List.take_drop, Nat.add_comm]
   rw [e]; exact VL.sh _ _ hvt
  ·rw [ml]
   exact iz fun c hc => fw ho c (List.mem_of_mem_drop (List.mem_of_mem_take hc))
  ·simpa [AV.cl] using j5 _
theorem vb {K : AV → Prop} {s : TypeId} {f : Nat} {fs : Array Field} {fd : Field} {m : Option Nat} {x : AV} {u : Value} (hs : P.underlying s = some (.struct fs)) (hf : fs[f]? = some fd)
  (hm : tq P fd.type m) (hx : VR g x u) (hk : jg m fd.offset K x) : ∃ r z, (Instr.field s u f).run P w = .ok z w ∧ VR g r z ∧ r.cl = true ∧ K r := by
 cases x <;> simp only [jg] at hk <;> try (exact hk.elim)
 rename_i cs
 simp only [VR] at hx
 obtain ⟨vs, rfl, hv, ho⟩ := hx
 obtain ⟨r, z, h1, h2⟩ := qA (w := w) hm hv ho (K := K) (off := fd.offset) (by simpa only [jg] using hk)
 refine ⟨r, z, ?_, h2⟩
 simp [Instr.field, run_underlying hs, hf, asAgg, h1]
def IL (m : Option Nat) (S N : Nat) (K : AV → Prop) : AV → AV → Prop
 | .str s, .int _ i => 0 ≤ i ∧ ∃ b, s[i.toNat]? = some b ∧ K (.int .u8 b.toNat)
 | .agg cs, .int _ i => 0 ≤ i ∧ i < N ∧ jg m (i.toNat * S) K (.agg cs)
 | _, _ => False
theorem FC {K : AV → Prop} {t : TypeId} {x i : AV} {u v : Value} {S N : Nat} (ht : P.underlying t = some .string) (hx : VR g x u) (hv : VR g i v) (hk : IL (some 0) S N K x i)
  (hstr : ∃ s, x = .str s) : ∃ r z, (Instr.index t u v).run P w = .ok z w ∧ VR g r z ∧ r.cl = true ∧ K r := by
 obtain ⟨s, rfl⟩ := hstr
 cases i <;> simp only [IL] at hk <;> try (exact hk.elim)
 rename_i k j
 obtain ⟨h0, b, hb, hK⟩ := hk
 simp only [VR] at hx hv; subst hx hv
 refine hZ hK ?_
 simp [Instr.index, asIntOf, run_underlying ht, h0, hb]
theorem FD {K : AV → Prop} {t e : TypeId} {n S : Nat} {m : Option Nat} {cs : List AV} {k : IntKind} {j : Int} {u v : Value} (ht : P.underlying t = some (.array n e)) (hm : tq P e m) (hs : (P.info? e).map (·.size) = some S)
  (hx : VR g (.agg cs) u) (hv : VR g (.int k j) v) (h0 : 0 ≤ j) (h1 : j < n) (hk : jg m (j.toNat * S) K (.agg cs)) : ∃ r z, (Instr.index t u v).run P w = .ok z w ∧ VR g r z ∧ r.cl = true ∧ K r := by
 simp only [VR] at hx hv
 obtain ⟨vs, rfl, hvs, ho⟩ := hx
 subst hv
 obtain ⟨r, z, a1, a2⟩ := qA (w := w) (cs := cs) hm hvs ho (K := K) (off := j.toNat * S) hk
 refine ⟨r, z, ?_, a2⟩
 simp [Instr.index, asIntOf, run_underlying ht, h0, h1, dK hs, a1]
def IM (K : AV → Prop) : AV → Prop
 | .str s => K (.int .i64 s.size)
 | .sl _ es => K (.int .i64 es.length)
 | _ => False
theorem tv {K : AV → Prop} {t ty : TypeId} {x : AV} {u : Value} (ht : (∃ e, P.underlying t = some (.slice e)) ∨ P.underlying t = some .string) (hx : VR g x u)
  (hty : match x with | .str _ => P.underlying t = some .string | _ => ∃ e, P.underlying t = some (.slice e)) (hk : IM K x) :
  ∃ r z, (Builtin.len_ #[t] ty #[u]).run P w = .ok z w ∧ VR g r z ∧ r.cl = true ∧ K r := by
 cases x <;> simp only [IM] at hk <;> try (exact hk.elim)
 ·simp only [VR] at hx; subst hx
  exact hZ hk (by simp only at hty; simp [Builtin.len_, run_underlying hty, goInt])
 ·rename_i m es
  simp only [VR] at hx
  obtain ⟨e, he⟩ : ∃ e, P.underlying t = some (.slice e) := hty
  rcases hx with ⟨rfl, _, _, rfl⟩ | ⟨B, o, cap, rfl, _⟩
  ·exact hZ hk (by simp [Builtin.len_, run_underlying he, goInt])
  ·exact hZ hk (by simp [Builtin.len_, run_underlying he, goInt])
end
end Go.Proofs.YtibchilpaaiecaaGreatDoor.M
