/- Operands, the state of a frame, operations on values alone. -/
import Derived.Test.YtlcflpanellbfaaGreatDoorM3
import Derived.ChangeKeysEq
import Derived.Laws.Slices
set_option linter.unusedVariables false
set_option linter.unusedSimpArgs false
namespace Go.Proofs.YtlcflpanellbfaaGreatDoor.M
open Go.RowKit
inductive Opd where
  | tmp (t : Nat)
  | con (v : AV)
  deriving Inhabited
def lit : Value → Option AV
  | .int k n => some (.int k n)
  | .bool b => some (.bool b)
  | .string s => some (.str s)
  | .pointer none => some .nilp
  | .slice none 0 0 => some (.sl .ex [])
  | .map none => some .nilm
  | .nilFunc => some .nilf
  | .nilIface => some .nili
  | _ => none
def litL : List Value → Option (List AV)
  | [] => some []
  | v :: vs => match lit v, litL vs with
    | some a, some as => some (a :: as)
    | _, _ => none
def litC : Value → Option (List AV)
  | .agg cs => litL cs.toList
  | v => match lit v with | some a => some [a] | none => none
theorem lit_VR {g : Gh} {v : Value} {a : AV} (h : lit v = some a) : VR g a v ∧ a.cl = true ∧ a.one = true := by
  unfold lit at h
  split at h <;> cases h <;> simp [VR, AV.cl, AV.one]
theorem litL_VL {g : Gh} : ∀ {vs : List Value} {as : List AV}, litL vs = some as → VL g as vs ∧ clL as = true ∧ onesL as = true
  | [], as, h => by simp only [litL, Option.some.injEq] at h; subst h; simp [VL, clL, onesL]
  | v :: vs, as, h => by
    simp only [litL] at h
    split at h
    · rename_i a as' h1 h2
      cases h
      obtain ⟨x1, x2, x3⟩ := lit_VR (g := g) h1
      obtain ⟨y1, y2, y3⟩ := litL_VL (g := g) h2
      exact ⟨⟨v, vs, rfl, x1, y1⟩, by simp [clL, x2, y2], by simp [onesL, x3, y3]⟩
    · cases h
theorem lit_cells {v : Value} {a : AV} (h : lit v = some a) : v.cells = #[v] := by
  unfold lit at h
  split at h <;> first | rfl | cases h
theorem litC_VL {g : Gh} {v : Value} {as : List AV} (h : litC v = some as) : VL g as v.cells.toList ∧ clL as = true ∧ onesL as = true := by
  unfold litC at h
  split at h
  · exact litL_VL h
  · split at h
    · rename_i a ha
      cases h
      obtain ⟨x1, x2, x3⟩ := lit_VR (g := g) ha
      rw [lit_cells ha]
      exact ⟨⟨v, [], rfl, x1, by simp [VL]⟩, by simp [clL, x2], by simp [onesL, x3]⟩
    · cases h
def compO : Operand → Option Opd
  | .tmp t => some (.tmp t)
  | .const v => match lit v with | some a => some (.con a) | none => none
  | .func f => some (.con (.fn (.func f) [] []))
  | .global x => match GT.lookup x with | some cs => some (.con (.ref cs)) | none => none
def undefA : AV := .tup []
def evalO (σ : List AV) : Opd → AV
  | .tmp t => σ.getD t undefA
  | .con v => v
def putA (σ : List AV) (d : Option Nat) (v : AV) : List AV := match d with | some d => σ.set d v | none => σ
structure SR (ds : List Deferred) (w0 : World) (g : Gh) (n : Nat → Nat) (σ : List AV) (h : AH) (a : Act) (w : World) : Prop where
  vl : VL g σ a.tmps.toList
  ov : OVL w0 g w σ a.tmps.toList
  inv : Inv w0 g h (fun B => n B + tkL σ a.tmps.toList B) w
  df : a.defers = ds
theorem VR_undef (g : Gh) : VR g undefA undef := ⟨#[], rfl, rfl⟩
theorem VL.getD {g : Gh} {vs : List AV} {us : Array Value} (h : VL g vs us.toList) (t : Nat) : VR g (vs.getD t undefA) (us.getD t undef) := by
  cases e : vs[t]? with
  | none =>
    have h1 : us[t]? = none := by
      have := VL.length h
      rw [List.getElem?_eq_none_iff] at e
      rw [Array.getElem?_eq_none_iff]
      simp at this; omega
    simp [List.getD, e, Array.getD_eq_getD_getElem?, h1, VR_undef]
  | some v =>
    obtain ⟨u, hu, hv⟩ := VL.get h e
    have h1 : us[t]? = some u := by simpa using hu
    simp [List.getD, e, Array.getD_eq_getD_getElem?, h1, hv]
theorem compO_VR {g : Gh} {σ : List AV} {a : Act} (hg : Gl g) (h : VL g σ a.tmps.toList) {x : Operand} {y : Opd} (hc : compO x = some y) : VR g (evalO σ y) (a.eval x) := by
  cases x with
  | tmp t => simp only [compO, Option.some.injEq] at hc; subst hc; exact VL.getD h t
  | const v =>
    simp only [compO] at hc
    split at hc
    · rename_i b hb; cases hc; exact (lit_VR hb).1
    · cases hc
  | func f => simp only [compO, Option.some.injEq] at hc; subst hc; exact ⟨#[], #[], rfl, by simp [VL], by simp [VL], rfl, rfl⟩
  | global x =>
    simp only [compO] at hc
    split at hc
    · rename_i cs hx; cases hc; simp only [evalO, VR]; exact ⟨x, 0, rfl, hg.at_ hx⟩
    · cases hc
theorem Act.put_toList (a : Act) (d : Option Nat) (u : Value) : (a.put d u).tmps.toList = match d with | some d => a.tmps.toList.set d u | none => a.tmps.toList := by
  cases d <;> simp [Act.put]
theorem Act.put_defers (a : Act) (d : Option Nat) (u : Value) : (a.put d u).defers = a.defers := by cases d <;> rfl
section
variable {w0 w : World} {ds : List Deferred} {g : Gh} {n : Nat → Nat} {σ : List AV} {h : AH} {a : Act}
theorem VL.putA {v : AV} {u : Value} (hv : VL g σ a.tmps.toList) (d : Option Nat) (hu : VR g v u) : VL g (putA σ d v) (a.put d u).tmps.toList := by
  rw [Act.put_toList]
  cases d with
  | none => exact hv
  | some d => exact VL.set hv d hu
theorem SR.step {w' : World} {g' : Gh} {h' : AH} {v : AV} {u : Value} (hs : SR ds w0 g n σ h a w) (d : Option Nat) (hvl : VL g' σ a.tmps.toList) (hov : OVL w0 g' w' σ a.tmps.toList)
    (hu : VR g' v u) (hv : OV w0 g' w' v u) (hi : Inv w0 g' h' (fun B => n B + tkL σ a.tmps.toList B + tk v u B) w') : SR ds w0 g' n (putA σ d v) h' (a.put d u) w' := by
  refine ⟨VL.putA hvl d hu, ?_, hi.le fun B => ?_, by rw [Act.put_defers]; exact hs.df⟩
  · rw [Act.put_toList]
    cases d with
    | none => exact hov
    | some d => exact OVL.set hov d hv
  · rw [Act.put_toList]
    cases d with
    | none => simp only [putA]; omega
    | some d => simp only [putA]; have := tkL_set_le hvl d v u B; omega
theorem SR.put (hs : SR ds w0 g n σ h a w) (d : Option Nat) {v : AV} {u : Value} (hu : VR g v u) (hc : v.cl = true) : SR ds w0 g n (putA σ d v) h (a.put d u) w :=
  hs.step d hs.vl hs.ov hu (OV_cl hc) (hs.inv.le fun B => by rw [tk_cl hc]; omega)
theorem SR.shl (hs : SR ds w0 g n σ h a w) {t : Nat} {v : AV} {u : Value} (hv : σ[t]? = some v) (hu : a.tmps[t]? = some u) :
    VL g (σ.set t v.sh) a.tmps.toList ∧ OVL w0 g w (σ.set t v.sh) a.tmps.toList ∧ (∀ B, tkL (σ.set t v.sh) a.tmps.toList B + tk v u B = tkL σ a.tmps.toList B) ∧ OV w0 g w v u ∧ VR g v u := by
  have hu' : a.tmps.toList[t]? = some u := by simpa using hu
  obtain ⟨x, hx, hvr⟩ := VL.get hs.vl hv
  rw [hu'] at hx; cases hx
  have hself : a.tmps.toList.set t u = a.tmps.toList := by
    apply List.ext_getElem?
    intro i
    by_cases hi : i = t
    · subst hi; rw [List.getElem?_set_self (List.getElem?_eq_some_iff.1 hu').1, hu']
    · rw [List.getElem?_set_ne (by omega)]
  refine ⟨?_, ?_, fun B => ?_, OVL.get hs.ov hv hu', hvr⟩
  · have := VL.set hs.vl t (VR.sh v u hvr); rwa [hself] at this
  · have := OVL.set hs.ov t (v := v.sh) (u := u) (OV_cl (cl_sh v)); rwa [hself] at this
  · have := tkL_set hs.vl (v' := v.sh) (u' := u) hv hu' B
    rw [hself, tk_cl (cl_sh v)] at this; omega
theorem SR.take (hs : SR ds w0 g n σ h a w) (d : Option Nat) {t : Nat} {v : AV} {u : Value} (hv : σ[t]? = some v) (hu : a.tmps[t]? = some u) :
    SR ds w0 g n (putA (σ.set t v.sh) d v) h (a.put d u) w := by
  obtain ⟨h1, h2, h3, h4, h5⟩ := hs.shl hv hu
  have hs' : SR ds w0 g n (σ.set t v.sh) h a w := ⟨h1, h2, hs.inv.le fun B => by have := h3 B; omega, hs.df⟩
  exact hs'.step d h1 h2 h5 h4 (hs.inv.le fun B => by have := h3 B; omega)
def OpPost (ds : List Deferred) (w0 : World) (g : Gh) (n : Nat → Nat) (w : World) (K : List AV → AH → Prop) (a' : Act) (w' : World) : Prop :=
  ∃ g' σ' h', K σ' h' ∧ g.le g' ∧ Keep n g w g' w' ∧ SR ds w0 g' n σ' h' a' w'
theorem op_value {P : Program} {o : Oper} {K : List AV → AH → Prop} {Q : Exit → Act → World → Prop} {v : AV} {u : Value} (hs : SR ds w0 g n σ h a w)
    (hr : (execOp a.eval o).run P w = .ok (.value u) w) (hu : VR g v u) (hc : v.cl = true) (hK : K (putA σ o.dst v) h) : o.wp P a w (OpPost ds w0 g n w K) Q := by
  unfold Oper.wp
  rw [hr, Oper.upon_value]
  exact ⟨g, _, h, hK, Gh.le.refl g, Keep.refl n g w, hs.put o.dst hu hc⟩
end
def binAV (op : BinOp) (K : AV → Prop) : AV → AV → Prop
  | .int k a, .int k' b =>
    match op with
    | .shl => 0 ≤ b ∧ K (.int k (k.wrap (a * 2 ^ (min b.toNat k.bits))))
    | .shr => 0 ≤ b ∧ K (.int k (a.fdiv (2 ^ (min b.toNat k.bits))))
    | .add => k = k' ∧ K (.int k (k.wrap (a + b)))
    | .sub => k = k' ∧ K (.int k (k.wrap (a - b)))
    | .mul => k = k' ∧ K (.int k (k.wrap (a * b)))
    | .quo => k = k' ∧ b ≠ 0 ∧ K (.int k (k.wrap (a.tdiv b)))
    | .rem => k = k' ∧ b ≠ 0 ∧ K (.int k (a.tmod b))
    | .and => k = k' ∧ K (.int k (k.wrap (BitVec.ofInt k.bits a &&& BitVec.ofInt k.bits b).toNat))
    | .or => k = k' ∧ K (.int k (k.wrap (BitVec.ofInt k.bits a ||| BitVec.ofInt k.bits b).toNat))
    | .xor => k = k' ∧ K (.int k (k.wrap (BitVec.ofInt k.bits a ^^^ BitVec.ofInt k.bits b).toNat))
    | .andNot => k = k' ∧ K (.int k (k.wrap (BitVec.ofInt k.bits a &&& ~~~ BitVec.ofInt k.bits b).toNat))
    | .eql => k = k' ∧ K (.bool (a == b))
    | .neq => k = k' ∧ K (.bool (a != b))
    | .lss => k = k' ∧ K (.bool (decide (a < b)))
    | .leq => k = k' ∧ K (.bool (decide (a ≤ b)))
    | .gtr => k = k' ∧ K (.bool (decide (a > b)))
    | .geq => k = k' ∧ K (.bool (decide (a ≥ b)))
  | .str a, .str b =>
    match op with
    | .add => ((a.size + b.size : Nat) : Int) ≤ 9223372036854775807 ∧ K (.str (a ++ b))
    | .eql => K (.bool (a.toList == b.toList))
    | .neq => K (.bool (!(a.toList == b.toList)))
    | .lss => K (.bool (Op.bytesLess a.toList b.toList))
    | .leq => K (.bool (Op.bytesLess a.toList b.toList || a.toList == b.toList))
    | .gtr => K (.bool (!(Op.bytesLess a.toList b.toList || a.toList == b.toList)))
    | .geq => K (.bool (!Op.bytesLess a.toList b.toList))
    | _ => False
  | _, _ => False
section
variable {P : Program} {w : World} {g : Gh} {K : AV → Prop} {s : Sem Value}
theorem sc_of {r : AV} {z : Value} (hK : K r) (hv : VR g r z) (hc : r.cl = true) (hr : s.run P w = .ok z w) : ∃ r z, s.run P w = .ok z w ∧ VR g r z ∧ r.cl = true ∧ K r := ⟨_, _, hr, hv, hc, hK⟩
theorem sc_int {k : IntKind} {n : Int} (hK : K (.int k n)) (hr : s.run P w = .ok (.int k n) w) : ∃ r z, s.run P w = .ok z w ∧ VR g r z ∧ r.cl = true ∧ K r := ⟨_, _, hr, by simp [VR], rfl, hK⟩
theorem sc_bool {b : Bool} (hK : K (.bool b)) (hr : s.run P w = .ok (.bool b) w) : ∃ r z, s.run P w = .ok z w ∧ VR g r z ∧ r.cl = true ∧ K r := ⟨_, _, hr, by simp [VR], rfl, hK⟩
theorem sc_str {b : ByteArray} (hK : K (.str b)) (hr : s.run P w = .ok (.string b) w) : ∃ r z, s.run P w = .ok z w ∧ VR g r z ∧ r.cl = true ∧ K r := ⟨_, _, hr, by simp [VR], rfl, hK⟩
end
theorem bin_sound {P : Program} {w : World} {g : Gh} {op : BinOp} {K : AV → Prop} (t : TypeId) {x y : AV} {u v : Value} (hx : VR g x u) (hy : VR g y v) (h : binAV op K x y) :
    ∃ r z, (binOp op t u v).run P w = .ok z w ∧ VR g r z ∧ r.cl = true ∧ K r := by
  cases x <;> cases y <;> simp only [binAV] at h <;> try (exact h.elim)
  · rename_i k a k' b
    simp only [VR] at hx hy; subst hx hy
    cases op <;> simp only [binAV] at h
    case shl => exact sc_int h.2 (by simp only [binOp, Op.shift]; rw [if_neg (by omega)]; rfl)
    case shr => exact sc_int h.2 (by simp only [binOp, Op.shift]; rw [if_neg (by omega)]; rfl)
    case quo => obtain ⟨rfl, h1, h2⟩ := h; exact sc_int h2 (by simp [binOp, Op.intDiv, h1])
    case rem => obtain ⟨rfl, h1, h2⟩ := h; exact sc_int h2 (by simp [binOp, Op.intDiv, h1])
    all_goals
      obtain ⟨rfl, h1⟩ := h
      first
        | exact sc_int h1 (by simp [binOp, Op.intArith, Op.intBits])
        | exact sc_bool h1 (by simp [binOp, Op.intCmp])
  · rename_i a b
    simp only [VR] at hx hy; subst hx hy
    cases op <;> simp only [binAV] at h <;> try (exact h.elim)
    case add =>
      obtain ⟨h0, h1⟩ := h
      refine sc_str h1 ?_
      have : ¬ (((a.size + b.size : Nat) : Int) > IntKind.i64.max) := by
        have : IntKind.i64.max = 9223372036854775807 := by decide
        omega
      simp only [binOp, Op.stringOp]
      rw [if_neg this]; rfl
    all_goals exact sc_bool h rfl
def unAV (op : UnOp) (K : AV → Prop) : AV → Prop
  | .bool b => match op with | .not => K (.bool (!b)) | _ => False
  | .int k n => match op with
    | .neg => K (.int k (k.wrap (0 - n)))
    | .xor => K (.int k (k.wrap (BitVec.ofInt k.bits (if k.signed then -1 else k.max) ^^^ BitVec.ofInt k.bits n).toNat))
    | _ => False
  | _ => False
theorem un_sound {P : Program} {w : World} {g : Gh} {op : UnOp} {K : AV → Prop} {x : AV} {u : Value} (hx : VR g x u) (h : unAV op K x) :
    ∃ r z, (Op.unary op u).run P w = .ok z w ∧ VR g r z ∧ r.cl = true ∧ K r := by
  cases x <;> simp only [unAV] at h <;> try (exact h.elim)
  · rename_i k a
    simp only [VR] at hx; subst hx
    cases op <;> simp only [unAV] at h <;> try (exact h.elim)
    all_goals exact sc_int h rfl
  · rename_i b
    simp only [VR] at hx; subst hx
    cases op <;> simp only [unAV] at h <;> try (exact h.elim)
    exact sc_bool h rfl
end Go.Proofs.YtlcflpanellbfaaGreatDoor.M
